import Derived.Test.YtnoahloppffndaaRows
import Derived.Test.YtnoahloppffndaaFs1
import Derived.Test.YtnoahloppffndaaDecRaw
namespace Go.Proofs.Ytnoahloppffndaa
open Go.Dec
set_option maxHeartbeats 400000
set_option maxRecDepth 100000

/-- syntax.Right -/
def F39 (p0_0 : ByteArray) (p0_1 : Int) (p0_2 : Int) (p0_3 : Int) (p0_4 : Bool) (p0_5 : Int) (p0_6 : Bool) (p0_7 : Bool) (p0_8 : Int) (p0_9 : Int) (p0_10 : Int) (p0_11 : Int) (p0_12 : Sl) (p0_13 : Int) (p0_14 : Int) (p0_15 : Int) (p0_16 : Int) (p0_17 : Bool) (p0_18 : Int) (p0_19 : Int) (p0_20 : Int) (p0_21 : Int) (w0 : World) (K : Bool → World → Prop) : Prop :=
  nw 24 (A23 p0_0 p0_1 p0_2 p0_3 p0_4 p0_5 p0_6 p0_7 p0_8 p0_9 p0_10 p0_11 p0_12 p0_13 p0_14 p0_15 p0_16 p0_17 p0_18 p0_19 p0_20 p0_21) w0 fun b9 w1 =>
  ld (Value.int .i64) ((Addr.mk b9 0 none).add 2) w1 fun x10 =>
  ld (Value.int .i64) ((Addr.mk b9 0 none).add 8) w1 fun x11 =>
  ld (Value.int .i64) ((Addr.mk b9 0 none).add 9) w1 fun x12 =>
  ld (Value.int .i64) ((Addr.mk b9 0 none).add 10) w1 fun x13 =>
  ld (Value.int .i64) ((Addr.mk b9 0 none).add 11) w1 fun x14 =>
  ld (Value.int .i64) ((Addr.mk b9 0 none).add 18) w1 fun x15 =>
  ld (Value.int .i64) ((Addr.mk b9 0 none).add 19) w1 fun x16 =>
  ld (Value.int .i64) ((Addr.mk b9 0 none).add 20) w1 fun x17 =>
  ld (Value.int .i64) ((Addr.mk b9 0 none).add 21) w1 fun x18 =>
  nw 3 #[(Value.int .i64 x10), (Value.int .i64 x11), (Value.int .i64 x12), (Value.int .i64 x13), (Value.int .i64 x14), (Value.int .i64 x15), (Value.int .i64 x16), (Value.int .i64 x17), (Value.int .i64 x18)] w1 fun b19 w2 =>
  lp (fun (next20 : Int → World → Prop) l20 w3 =>
    cnd (decide (l20 < ((⟨some ⟨b19, 0, none⟩, 9, 9⟩ : Sl).len : Int)))
      (
      ix (⟨some ⟨b19, 0, none⟩, 9, 9⟩ : Sl) l20 1 fun p22 =>
      ld (Value.int .i64) p22 w3 fun x23 =>
      cnd ((decide (x23 < 0)) || (decide (1073741824 < x23)))
        (
        K false w3
        )
        (
        next20 (IntKind.i64.wrap (l20 + 1)) w3
        )
      )
      (
      ld (Value.int .i64) ((Addr.mk b9 0 none).add 3) w3 fun x27 =>
      ld (Value.int .i64) ((Addr.mk b9 0 none).add 5) w3 fun x28 =>
      ld (Value.int .i64) ((Addr.mk b9 0 none).add 13) w3 fun x29 =>
      ld (Value.int .i64) ((Addr.mk b9 0 none).add 14) w3 fun x30 =>
      ld (Value.int .i64) ((Addr.mk b9 0 none).add 15) w3 fun x31 =>
      ld (Value.int .i64) ((Addr.mk b9 0 none).add 16) w3 fun x32 =>
      nw 82 #[(Value.int .i64 x27), (Value.int .i64 3), (Value.int .i64 x28), (Value.int .i64 3), (Value.int .i64 x29), (Value.int .i64 3), (Value.int .i64 x30), (Value.int .i64 2), (Value.int .i64 x31), (Value.int .i64 2), (Value.int .i64 x32), (Value.int .i64 5)] w3 fun b33 w4 =>
      lp (fun (next34 : Int → World → Prop) l34 w5 =>
        cnd (decide (l34 < ((⟨some ⟨b33, 0, none⟩, 6, 6⟩ : Sl).len : Int)))
          (
          ix (⟨some ⟨b33, 0, none⟩, 6, 6⟩ : Sl) l34 2 fun p36 =>
          ld (Value.int .i64) (p36.add 0) w5 fun x37 =>
          ld (Value.int .i64) (p36.add 1) w5 fun x38 =>
          nw 82 #[(Value.int .i64 0), (Value.int .i64 0)] w5 fun b39 w6 =>
          st (Addr.mk b39 0 none) [(Value.int .i64 x37), (Value.int .i64 x38)] w6 fun w7 =>
          rn Try.prog (Instr.indexAt 82 (Value.pointer (some (Addr.mk b39 0 none))) (Value.int .i64 0)) (fun a : Addr => Value.pointer (some a)) w7 fun p41 w8 =>
          ld (Value.int .i64) p41 w8 fun x42 =>
          jn (fun J43 => cnd (decide (x42 < 0))
            (
            J43 true w8
            )
            (
            rn Try.prog (Instr.indexAt 82 (Value.pointer (some (Addr.mk b39 0 none))) (Value.int .i64 0)) (fun a : Addr => Value.pointer (some a)) w8 fun p45 w9 =>
            ld (Value.int .i64) p45 w9 fun x46 =>
            rn Try.prog (Instr.indexAt 82 (Value.pointer (some (Addr.mk b39 0 none))) (Value.int .i64 1)) (fun a : Addr => Value.pointer (some a)) w9 fun p47 w10 =>
            ld (Value.int .i64) p47 w10 fun x48 =>
            J43 (decide (x48 ≤ x46)) w10
            ))
          fun c49 w11 =>
          cnd (c49)
            (
            K false w11
            )
            (
            next34 (IntKind.i64.wrap (l34 + 1)) w11
            )
          )
          (
          jn (fun (J51 : Bool → World → Prop) =>
            ld Value.string ((Addr.mk b9 0 none).add 0) w5 fun x53 =>
            callC Try.prog 53 #[(Value.string x53)] (fun (r : Bool) => (Value.bool r)) w5 fun r54 w13 =>
            cnd (!r54)
              (
              J51 (!r54) w13
              )
              (
              ld (Value.int .i64) ((Addr.mk b9 0 none).add 1) w13 fun x56 =>
              jp (fun J57 => cnd (!decide (x56 = 0))
                (
                ld (Value.int .i64) ((Addr.mk b9 0 none).add 1) w13 fun x59 =>
                J57 (!decide (x59 = 2))
                )
                (
                J57 false
                ))
              fun c60 =>
              cnd (c60)
                (
                J51 c60 w13
                )
                (
                ld (Value.int .i64) ((Addr.mk b9 0 none).add 1) w13 fun x62 =>
                jp (fun J63 => cnd (decide (x62 = 0))
                  (
                  ld (Value.int .i64) ((Addr.mk b9 0 none).add 2) w13 fun x65 =>
                  J63 (decide (0 < x65))
                  )
                  (
                  J63 false
                  ))
                fun c66 =>
                J51 c66 w13
                )
              )
          )
          fun l52 w12 =>
          cnd (l52)
            (
            K false w12
            )
            (
            ld (Value.int .i64) ((Addr.mk b9 0 none).add 10) w12 fun x68 =>
            cnd (decide (x68 = 0))
              (
              ld (Value.int .i64) ((Addr.mk b9 0 none).add 11) w12 fun x70 =>
              jp (fun J71 => cnd (decide (x70 = 0))
                (
                ld Sl.v ((Addr.mk b9 0 none).add 12) w12 fun x73 =>
                J71 (decide ((x73.len : Int) = 0))
                )
                (
                J71 false
                ))
              fun c74 =>
              K c74 w12
              )
              (
              ld Sl.v ((Addr.mk b9 0 none).add 12) w12 fun x75 =>
              jp (fun J76 => cnd (decide (1 ≤ (x75.len : Int)))
                (
                ld Sl.v ((Addr.mk b9 0 none).add 12) w12 fun x78 =>
                J76 (decide ((x78.len : Int) ≤ 20))
                )
                (
                J76 false
                ))
              fun c79 =>
              jn (fun J80 => cnd (c79)
                (
                ld Sl.v ((Addr.mk b9 0 none).add 12) w12 fun x82 =>
                callC Try.prog 47 #[(Sl.v x82), (Value.func (.func 54) #[] #[])] (fun (r : Bool) => (Value.bool r)) w12 fun r83 w14 =>
                J80 (!r83) w14
                )
                (
                J80 false w12
                ))
              fun c84 w15 =>
              K c84 w15
              )
            )
          )
      ) 0 w4
      )
  ) 0 w2
set_option maxRecDepth 100000 in
theorem D39 (p0_0 : ByteArray) (p0_1 : Int) (p0_2 : Int) (p0_3 : Int) (p0_4 : Bool) (p0_5 : Int) (p0_6 : Bool) (p0_7 : Bool) (p0_8 : Int) (p0_9 : Int) (p0_10 : Int) (p0_11 : Int) (p0_12 : Sl) (p0_13 : Int) (p0_14 : Int) (p0_15 : Int) (p0_16 : Int) (p0_17 : Bool) (p0_18 : Int) (p0_19 : Int) (p0_20 : Int) (p0_21 : Int) (w0 : World) (K : Bool → World → Prop) (h : F39 p0_0 p0_1 p0_2 p0_3 p0_4 p0_5 p0_6 p0_7 p0_8 p0_9 p0_10 p0_11 p0_12 p0_13 p0_14 p0_15 p0_16 p0_17 p0_18 p0_19 p0_20 p0_21 w0 K) : callC Try.prog 39 #[(V23 p0_0 p0_1 p0_2 p0_3 p0_4 p0_5 p0_6 p0_7 p0_8 p0_9 p0_10 p0_11 p0_12 p0_13 p0_14 p0_15 p0_16 p0_17 p0_18 p0_19 p0_20 p0_21)] (fun (r : Bool) => (Value.bool r)) w0 K := by
  unfold F39 at h
  refine calls_of_wpC Try.func39 rfl 123 rfl (by simp) ?_
  intro ρ hρ
  have e0 : ρ 0 = (V23 p0_0 p0_1 p0_2 p0_3 p0_4 p0_5 p0_6 p0_7 p0_8 p0_9 p0_10 p0_11 p0_12 p0_13 p0_14 p0_15 p0_16 p0_17 p0_18 p0_19 p0_20 p0_21) := hρ 0
  clear hρ
  refine wpC_seq ?_
  refine wpC_region ?_
  obtain ⟨b9, hb9⟩ : ∃ u, u = w0.heap.size := ⟨_, rfl⟩
  obtain ⟨w1, hw9⟩ : ∃ u, u = w0.alloc (.cells (A23 p0_0 p0_1 p0_2 p0_3 p0_4 p0_5 p0_6 p0_7 p0_8 p0_9 p0_10 p0_11 p0_12 p0_13 p0_14 p0_15 p0_16 p0_17 p0_18 p0_19 p0_20 p0_21) 24) := ⟨_, rfl⟩
  replace h := h b9 w1 hb9 hw9
  refine wpR_val (v := (Value.pointer (some (Addr.mk b9 0 none)))) (w' := w1) rfl rfl rfl ((x_box (v := (V23 p0_0 p0_1 p0_2 p0_3 p0_4 p0_5 p0_6 p0_7 p0_8 p0_9 p0_10 p0_11 p0_12 p0_13 p0_14 p0_15 p0_16 p0_17 p0_18 p0_19 p0_20 p0_21)) rfl e0).trans (by rw [hb9, hw9]; rfl)) ?_
  refine wpR_val (v := (Value.bool false)) (w' := w1) rfl rfl rfl (x_assign (v := (Value.bool false)) rfl rfl) ?_
  refine wpR_nil ?_
  refine wpC_seq ?_
  refine wpC_seq ?_
  refine wpC_cut (fun ρ => ρ 1 = (Value.pointer (some (Addr.mk b9 0 none))) ∧ True) ⟨rfl, trivial⟩ ?_
  rintro ρ ⟨e1, -⟩
  refine wpC_region ?_
  refine wpR_val (v := (Value.pointer (some ((Addr.mk b9 0 none).add 2)))) (w' := w1) rfl rfl rfl (x_fieldAddr rfl e1 FA_24_2) ?_
  obtain ⟨x10, q10, h⟩ := h
  refine wpR_val (v := (Value.int .i64 x10)) (w' := w1) rfl rfl rfl (x_load1 rfl rfl SH_3 q10) ?_
  refine wpR_val (v := (Value.pointer (some ((Addr.mk b9 0 none).add 8)))) (w' := w1) rfl rfl rfl (x_fieldAddr rfl e1 FA_24_8) ?_
  obtain ⟨x11, q11, h⟩ := h
  refine wpR_val (v := (Value.int .i64 x11)) (w' := w1) rfl rfl rfl (x_load1 rfl rfl SH_3 q11) ?_
  refine wpR_val (v := (Value.pointer (some ((Addr.mk b9 0 none).add 9)))) (w' := w1) rfl rfl rfl (x_fieldAddr rfl e1 FA_24_9) ?_
  obtain ⟨x12, q12, h⟩ := h
  refine wpR_val (v := (Value.int .i64 x12)) (w' := w1) rfl rfl rfl (x_load1 rfl rfl SH_3 q12) ?_
  refine wpR_val (v := (Value.pointer (some ((Addr.mk b9 0 none).add 10)))) (w' := w1) rfl rfl rfl (x_fieldAddr rfl e1 FA_24_10) ?_
  obtain ⟨x13, q13, h⟩ := h
  refine wpR_val (v := (Value.int .i64 x13)) (w' := w1) rfl rfl rfl (x_load1 rfl rfl SH_3 q13) ?_
  refine wpR_val (v := (Value.pointer (some ((Addr.mk b9 0 none).add 11)))) (w' := w1) rfl rfl rfl (x_fieldAddr rfl e1 FA_24_11) ?_
  obtain ⟨x14, q14, h⟩ := h
  refine wpR_val (v := (Value.int .i64 x14)) (w' := w1) rfl rfl rfl (x_load1 rfl rfl SH_3 q14) ?_
  refine wpR_val (v := (Value.pointer (some ((Addr.mk b9 0 none).add 18)))) (w' := w1) rfl rfl rfl (x_fieldAddr rfl e1 FA_24_18) ?_
  obtain ⟨x15, q15, h⟩ := h
  refine wpR_val (v := (Value.int .i64 x15)) (w' := w1) rfl rfl rfl (x_load1 rfl rfl SH_3 q15) ?_
  refine wpR_val (v := (Value.pointer (some ((Addr.mk b9 0 none).add 19)))) (w' := w1) rfl rfl rfl (x_fieldAddr rfl e1 FA_24_19) ?_
  obtain ⟨x16, q16, h⟩ := h
  refine wpR_val (v := (Value.int .i64 x16)) (w' := w1) rfl rfl rfl (x_load1 rfl rfl SH_3 q16) ?_
  refine wpR_val (v := (Value.pointer (some ((Addr.mk b9 0 none).add 20)))) (w' := w1) rfl rfl rfl (x_fieldAddr rfl e1 FA_24_20) ?_
  obtain ⟨x17, q17, h⟩ := h
  refine wpR_val (v := (Value.int .i64 x17)) (w' := w1) rfl rfl rfl (x_load1 rfl rfl SH_3 q17) ?_
  refine wpR_val (v := (Value.pointer (some ((Addr.mk b9 0 none).add 21)))) (w' := w1) rfl rfl rfl (x_fieldAddr rfl e1 FA_24_21) ?_
  obtain ⟨x18, q18, h⟩ := h
  refine wpR_val (v := (Value.int .i64 x18)) (w' := w1) rfl rfl rfl (x_load1 rfl rfl SH_3 q18) ?_
  obtain ⟨b19, hb19⟩ : ∃ u, u = w1.heap.size := ⟨_, rfl⟩
  obtain ⟨w2, hw19⟩ : ∃ u, u = w1.alloc (.cells #[(Value.int .i64 x10), (Value.int .i64 x11), (Value.int .i64 x12), (Value.int .i64 x13), (Value.int .i64 x14), (Value.int .i64 x15), (Value.int .i64 x16), (Value.int .i64 x17), (Value.int .i64 x18)] 3) := ⟨_, rfl⟩
  replace h := h b19 w2 hb19 hw19
  refine wpR_val (v := (Sl.v (⟨some ⟨b19, 0, none⟩, 9, 9⟩ : Sl))) (w' := w2) rfl rfl rfl ((x_buildSlice (qs := [(0, (Value.int .i64 x10)), (1, (Value.int .i64 x11)), (2, (Value.int .i64 x12)), (3, (Value.int .i64 x13)), (4, (Value.int .i64 x14)), (5, (Value.int .i64 x15)), (6, (Value.int .i64 x16)), (7, (Value.int .i64 x17)), (8, (Value.int .i64 x18))]) rfl (by rfl) (BS_63_9_0_1_2_3_4_5_6_7_8 x10 x11 x12 x13 x14 x15 x16 x17 x18)).trans (by rw [← hb19, ← hw19])) ?_
  refine wpR_val (v := (Value.int .i64 ((⟨some ⟨b19, 0, none⟩, 9, 9⟩ : Sl).len : Int))) (w' := w2) rfl rfl rfl (x_lenS (s := (⟨some ⟨b19, 0, none⟩, 9, 9⟩ : Sl)) rfl rfl isSliceT_63) ?_
  refine wpR_val (v := (Value.int .i64 0)) (w' := w2) rfl rfl rfl (x_move (v := (Value.int .i64 0)) rfl rfl) ?_
  refine wpR_nil ?_
  refine wpC_block ?_
  obtain ⟨I20, μ20, hI20, hr20⟩ := h
  refine wpC_loop (fun (x : Int) ρ => ρ 27 = (Value.int .i64 x) ∧ ρ 1 = (Value.pointer (some (Addr.mk b9 0 none))) ∧ ρ 25 = (Sl.v (⟨some ⟨b19, 0, none⟩, 9, 9⟩ : Sl)) ∧ ρ 26 = (Value.int .i64 ((⟨some ⟨b19, 0, none⟩, 9, 9⟩ : Sl).len : Int)) ∧ True) I20 μ20 0 ⟨rfl, e1, rfl, rfl, trivial⟩ hI20 ?_
  rintro l20 ρ w3 ⟨e27, e1, e25, e26, -⟩ h
  replace h := hr20 l20 w3 h
  clear hr20 hI20
  refine wpC_seq ?_
  refine wpC_region ?_
  refine wpR_val (v := (Value.bool (decide (l20 < ((⟨some ⟨b19, 0, none⟩, 9, 9⟩ : Sl).len : Int))))) (w' := w3) rfl rfl rfl (x_lss rfl e27 e26) ?_
  refine wpR_nil ?_
  refine wpC_seq ?_
  refine wpC_cond (b := decide (l20 < ((⟨some ⟨b19, 0, none⟩, 9, 9⟩ : Sl).len : Int))) rfl (fun hc21 => ?_) (fun hc21 => ?_)
  · replace h := h.1 hc21
    refine wpC_skip ?_
    refine wpC_seq ?_
    refine wpC_block ?_
    refine wpC_seq ?_
    refine wpC_cut (fun ρ => ρ 1 = (Value.pointer (some (Addr.mk b9 0 none))) ∧ ρ 25 = (Sl.v (⟨some ⟨b19, 0, none⟩, 9, 9⟩ : Sl)) ∧ ρ 26 = (Value.int .i64 ((⟨some ⟨b19, 0, none⟩, 9, 9⟩ : Sl).len : Int)) ∧ ρ 27 = (Value.int .i64 l20) ∧ True) ⟨e1, e25, e26, e27, trivial⟩ ?_
    rintro ρ ⟨e1, e25, e26, e27, -⟩
    refine wpC_region ?_
    obtain ⟨q22, z22, r22, h⟩ := h
    generalize hp22 : z22.add ((l20 : Int).toNat * 1) = p22 at h
    refine wpR_val (v := (Value.pointer (some p22))) (w' := w3) rfl rfl rfl ((x_indexAddr (s := (⟨some ⟨b19, 0, none⟩, 9, 9⟩ : Sl)) rfl e25 e27 ES_63 q22 r22).trans (by rw [hp22])) ?_
    obtain ⟨x23, q23, h⟩ := h
    refine wpR_val (v := (Value.int .i64 x23)) (w' := w3) rfl rfl rfl (x_load1 rfl rfl SH_3 q23) ?_
    refine wpR_val (v := (Value.int .i64 x23)) (w' := w3) rfl rfl rfl (x_assign (v := (Value.int .i64 x23)) rfl rfl) ?_
    refine wpR_nil ?_
    refine wpC_seq ?_
    refine wpC_cut (fun ρ => ρ 1 = (Value.pointer (some (Addr.mk b9 0 none))) ∧ ρ 4 = (Value.int .i64 x23) ∧ ρ 25 = (Sl.v (⟨some ⟨b19, 0, none⟩, 9, 9⟩ : Sl)) ∧ ρ 26 = (Value.int .i64 ((⟨some ⟨b19, 0, none⟩, 9, 9⟩ : Sl).len : Int)) ∧ ρ 27 = (Value.int .i64 l20) ∧ True) ⟨e1, rfl, e25, e26, e27, trivial⟩ ?_
    rintro ρ ⟨e1, e4, e25, e26, e27, -⟩
    refine wpC_region ?_
    refine wpR_val (v := (Value.int .i64 x23)) (w' := w3) rfl rfl rfl (x_move (v := (Value.int .i64 x23)) rfl e4) ?_
    refine wpR_val (v := (Value.bool (decide (x23 < 0)))) (w' := w3) rfl rfl rfl (x_lss rfl rfl rfl) ?_
    refine wpR_val (v := (Value.bool (decide (x23 < 0)))) (w' := w3) rfl rfl rfl (x_move (v := (Value.bool (decide (x23 < 0)))) rfl rfl) ?_
    refine wpR_joinJ 3 (fun (_ : Unit) ρ => ρ 36 = Value.bool ((decide (x23 < 0)) || (decide (1073741824 < x23))) ∧ ρ 1 = (Value.pointer (some (Addr.mk b9 0 none))) ∧ ρ 25 = (Sl.v (⟨some ⟨b19, 0, none⟩, 9, 9⟩ : Sl)) ∧ ρ 26 = (Value.int .i64 ((⟨some ⟨b19, 0, none⟩, 9, 9⟩ : Sl).len : Int)) ∧ ρ 27 = (Value.int .i64 l20) ∧ True) (fun _ w => w3 = w) ?_ ?_
    · clear h
      rcases Bool.eq_false_or_eq_true (decide (x23 < 0)) with hc25 | hc25
      · skip
        refine wpR_pass (wantN rfl rfl rfl hc25) rfl rfl ?_
        refine wpR_pass (wantN rfl rfl rfl hc25) rfl rfl ?_
        refine wpR_val (v := (Value.bool true)) (w' := w3) rfl rfl rfl (x_pickT (v := (Value.bool true)) rfl rfl hc25 rfl) ?_
        refine wpR_nil ?_
        exact ⟨(), ⟨(by rw [hc25]; rfl), e1, e25, e26, e27, trivial⟩, rfl⟩
      · skip
        refine wpR_val (v := (Value.int .i64 x23)) (w' := w3) (wantG rfl rfl rfl hc25) rfl rfl (x_move (v := (Value.int .i64 x23)) rfl e4) ?_
        refine wpR_val (v := (Value.bool (decide (1073741824 < x23)))) (w' := w3) (wantG rfl rfl rfl hc25) rfl rfl (x_gtr rfl rfl rfl) ?_
        refine wpR_val (v := (Value.bool (decide (1073741824 < x23)))) (w' := w3) rfl rfl rfl (x_pickF (v := (Value.bool (decide (1073741824 < x23)))) rfl rfl hc25 rfl) ?_
        refine wpR_nil ?_
        exact ⟨(), ⟨(by rw [hc25]; rfl), e1, e25, e26, e27, trivial⟩, rfl⟩
    rintro _ ρ wj ⟨e36, e1, e25, e26, e27, -⟩ rfl
    refine wpR_nil ?_
    refine wpC_cond (b := (decide (x23 < 0)) || (decide (1073741824 < x23))) e36 (fun hc26 => ?_) (fun hc26 => ?_)
    · replace h := h.1 hc26
      refine wpC_seq ?_
      refine wpC_region ?_
      refine wpR_val (v := (Value.bool false)) (w' := w3) rfl rfl rfl (x_assign (v := (Value.bool false)) rfl rfl) ?_
      refine wpR_nil ?_
      refine wpC_ret ?_
      exact ⟨.inl rfl, fun a ha => ⟨_, results_rep1 rfl ha rfl, false, rfl, h⟩⟩
    · replace h := h.2 hc26
      refine wpC_skip ?_
      refine wpC_region ?_
      refine wpR_val (v := (Value.int .i64 (IntKind.i64.wrap (l20 + 1)))) (w' := w3) rfl rfl rfl (x_add rfl e27 rfl) ?_
      refine wpR_val (v := (Value.int .i64 (IntKind.i64.wrap (l20 + 1)))) (w' := w3) rfl rfl rfl (x_move (v := (Value.int .i64 (IntKind.i64.wrap (l20 + 1)))) rfl rfl) ?_
      refine wpR_nil ?_
      exact ⟨IntKind.i64.wrap (l20 + 1), ⟨rfl, e1, e25, e26, trivial⟩, h⟩
  · replace h := h.2 hc21
    refine wpC_exit ?_
    refine wpC_seq ?_
    refine wpC_seq ?_
    refine wpC_cut (fun ρ => ρ 1 = (Value.pointer (some (Addr.mk b9 0 none))) ∧ True) ⟨e1, trivial⟩ ?_
    rintro ρ ⟨e1, -⟩
    refine wpC_region ?_
    refine wpR_val (v := (Value.pointer (some ((Addr.mk b9 0 none).add 3)))) (w' := w3) rfl rfl rfl (x_fieldAddr rfl e1 FA_24_3) ?_
    obtain ⟨x27, q27, h⟩ := h
    refine wpR_val (v := (Value.int .i64 x27)) (w' := w3) rfl rfl rfl (x_load1 rfl rfl SH_3 q27) ?_
    refine wpR_val (v := (Value.agg #[(Value.int .i64 x27), (Value.int .i64 3)])) (w' := w3) rfl rfl rfl (x_build (qs := [(0, (Value.int .i64 x27)), (1, (Value.int .i64 3))]) rfl (by rfl) (BD_82_0_1 x27 3 _)) ?_
    refine wpR_val (v := (Value.pointer (some ((Addr.mk b9 0 none).add 5)))) (w' := w3) rfl rfl rfl (x_fieldAddr rfl e1 FA_24_5) ?_
    obtain ⟨x28, q28, h⟩ := h
    refine wpR_val (v := (Value.int .i64 x28)) (w' := w3) rfl rfl rfl (x_load1 rfl rfl SH_3 q28) ?_
    refine wpR_val (v := (Value.agg #[(Value.int .i64 x28), (Value.int .i64 3)])) (w' := w3) rfl rfl rfl (x_build (qs := [(0, (Value.int .i64 x28)), (1, (Value.int .i64 3))]) rfl (by rfl) (BD_82_0_1 x28 3 _)) ?_
    refine wpR_val (v := (Value.pointer (some ((Addr.mk b9 0 none).add 13)))) (w' := w3) rfl rfl rfl (x_fieldAddr rfl e1 FA_24_13) ?_
    obtain ⟨x29, q29, h⟩ := h
    refine wpR_val (v := (Value.int .i64 x29)) (w' := w3) rfl rfl rfl (x_load1 rfl rfl SH_3 q29) ?_
    refine wpR_val (v := (Value.agg #[(Value.int .i64 x29), (Value.int .i64 3)])) (w' := w3) rfl rfl rfl (x_build (qs := [(0, (Value.int .i64 x29)), (1, (Value.int .i64 3))]) rfl (by rfl) (BD_82_0_1 x29 3 _)) ?_
    refine wpR_val (v := (Value.pointer (some ((Addr.mk b9 0 none).add 14)))) (w' := w3) rfl rfl rfl (x_fieldAddr rfl e1 FA_24_14) ?_
    obtain ⟨x30, q30, h⟩ := h
    refine wpR_val (v := (Value.int .i64 x30)) (w' := w3) rfl rfl rfl (x_load1 rfl rfl SH_3 q30) ?_
    refine wpR_val (v := (Value.agg #[(Value.int .i64 x30), (Value.int .i64 2)])) (w' := w3) rfl rfl rfl (x_build (qs := [(0, (Value.int .i64 x30)), (1, (Value.int .i64 2))]) rfl (by rfl) (BD_82_0_1 x30 2 _)) ?_
    refine wpR_val (v := (Value.pointer (some ((Addr.mk b9 0 none).add 15)))) (w' := w3) rfl rfl rfl (x_fieldAddr rfl e1 FA_24_15) ?_
    obtain ⟨x31, q31, h⟩ := h
    refine wpR_val (v := (Value.int .i64 x31)) (w' := w3) rfl rfl rfl (x_load1 rfl rfl SH_3 q31) ?_
    refine wpR_val (v := (Value.agg #[(Value.int .i64 x31), (Value.int .i64 2)])) (w' := w3) rfl rfl rfl (x_build (qs := [(0, (Value.int .i64 x31)), (1, (Value.int .i64 2))]) rfl (by rfl) (BD_82_0_1 x31 2 _)) ?_
    refine wpR_val (v := (Value.pointer (some ((Addr.mk b9 0 none).add 16)))) (w' := w3) rfl rfl rfl (x_fieldAddr rfl e1 FA_24_16) ?_
    obtain ⟨x32, q32, h⟩ := h
    refine wpR_val (v := (Value.int .i64 x32)) (w' := w3) rfl rfl rfl (x_load1 rfl rfl SH_3 q32) ?_
    refine wpR_val (v := (Value.agg #[(Value.int .i64 x32), (Value.int .i64 5)])) (w' := w3) rfl rfl rfl (x_build (qs := [(0, (Value.int .i64 x32)), (1, (Value.int .i64 5))]) rfl (by rfl) (BD_82_0_1 x32 5 _)) ?_
    obtain ⟨b33, hb33⟩ : ∃ u, u = w3.heap.size := ⟨_, rfl⟩
    obtain ⟨w4, hw33⟩ : ∃ u, u = w3.alloc (.cells #[(Value.int .i64 x27), (Value.int .i64 3), (Value.int .i64 x28), (Value.int .i64 3), (Value.int .i64 x29), (Value.int .i64 3), (Value.int .i64 x30), (Value.int .i64 2), (Value.int .i64 x31), (Value.int .i64 2), (Value.int .i64 x32), (Value.int .i64 5)] 82) := ⟨_, rfl⟩
    replace h := h b33 w4 hb33 hw33
    refine wpR_val (v := (Sl.v (⟨some ⟨b33, 0, none⟩, 6, 6⟩ : Sl))) (w' := w4) rfl rfl rfl ((x_buildSlice (qs := [(0, (Value.agg #[(Value.int .i64 x27), (Value.int .i64 3)])), (1, (Value.agg #[(Value.int .i64 x28), (Value.int .i64 3)])), (2, (Value.agg #[(Value.int .i64 x29), (Value.int .i64 3)])), (3, (Value.agg #[(Value.int .i64 x30), (Value.int .i64 2)])), (4, (Value.agg #[(Value.int .i64 x31), (Value.int .i64 2)])), (5, (Value.agg #[(Value.int .i64 x32), (Value.int .i64 5)]))]) rfl (by rfl) (BS_83_6_0_1_2_3_4_5 x27 3 x28 3 x29 3 x30 2 x31 2 x32 5)).trans (by rw [← hb33, ← hw33])) ?_
    refine wpR_val (v := (Value.int .i64 ((⟨some ⟨b33, 0, none⟩, 6, 6⟩ : Sl).len : Int))) (w' := w4) rfl rfl rfl (x_lenS (s := (⟨some ⟨b33, 0, none⟩, 6, 6⟩ : Sl)) rfl rfl isSliceT_83) ?_
    refine wpR_val (v := (Value.int .i64 0)) (w' := w4) rfl rfl rfl (x_move (v := (Value.int .i64 0)) rfl rfl) ?_
    refine wpR_nil ?_
    refine wpC_block ?_
    obtain ⟨I34, μ34, hI34, hr34⟩ := h
    refine wpC_loop (fun (x : Int) ρ => ρ 58 = (Value.int .i64 x) ∧ ρ 1 = (Value.pointer (some (Addr.mk b9 0 none))) ∧ ρ 56 = (Sl.v (⟨some ⟨b33, 0, none⟩, 6, 6⟩ : Sl)) ∧ ρ 57 = (Value.int .i64 ((⟨some ⟨b33, 0, none⟩, 6, 6⟩ : Sl).len : Int)) ∧ True) I34 μ34 0 ⟨rfl, e1, rfl, rfl, trivial⟩ hI34 ?_
    rintro l34 ρ w5 ⟨e58, e1, e56, e57, -⟩ h
    replace h := hr34 l34 w5 h
    clear hr34 hI34
    refine wpC_seq ?_
    refine wpC_region ?_
    refine wpR_val (v := (Value.bool (decide (l34 < ((⟨some ⟨b33, 0, none⟩, 6, 6⟩ : Sl).len : Int))))) (w' := w5) rfl rfl rfl (x_lss rfl e58 e57) ?_
    refine wpR_nil ?_
    refine wpC_seq ?_
    refine wpC_cond (b := decide (l34 < ((⟨some ⟨b33, 0, none⟩, 6, 6⟩ : Sl).len : Int))) rfl (fun hc35 => ?_) (fun hc35 => ?_)
    · replace h := h.1 hc35
      refine wpC_skip ?_
      refine wpC_seq ?_
      refine wpC_block ?_
      refine wpC_seq ?_
      refine wpC_cut (fun ρ => ρ 1 = (Value.pointer (some (Addr.mk b9 0 none))) ∧ ρ 56 = (Sl.v (⟨some ⟨b33, 0, none⟩, 6, 6⟩ : Sl)) ∧ ρ 57 = (Value.int .i64 ((⟨some ⟨b33, 0, none⟩, 6, 6⟩ : Sl).len : Int)) ∧ ρ 58 = (Value.int .i64 l34) ∧ True) ⟨e1, e56, e57, e58, trivial⟩ ?_
      rintro ρ ⟨e1, e56, e57, e58, -⟩
      refine wpC_region ?_
      obtain ⟨q36, z36, r36, h⟩ := h
      generalize hp36 : z36.add ((l34 : Int).toNat * 2) = p36 at h
      refine wpR_val (v := (Value.pointer (some p36))) (w' := w5) rfl rfl rfl ((x_indexAddr (s := (⟨some ⟨b33, 0, none⟩, 6, 6⟩ : Sl)) rfl e56 e58 ES_83 q36 r36).trans (by rw [hp36])) ?_
      obtain ⟨x37, q37, x38, q38, h⟩ := h
      refine wpR_val (v := (Value.agg #[(Value.int .i64 x37), (Value.int .i64 x38)])) (w' := w5) rfl rfl rfl (x_loadN [(Value.int .i64 x37), (Value.int .i64 x38)] rfl rfl SH_82 (CellsAt.out (CellsAt.cons q37 (CellsAt.cons q38 CellsAt.nil)))) ?_
      obtain ⟨b39, hb39⟩ : ∃ u, u = w5.heap.size := ⟨_, rfl⟩
      obtain ⟨w6, hw39⟩ : ∃ u, u = w5.alloc (.cells #[(Value.int .i64 0), (Value.int .i64 0)] 82) := ⟨_, rfl⟩
      replace h := h b39 w6 hb39 hw39
      refine wpR_val (v := (Value.pointer (some (Addr.mk b39 0 none)))) (w' := w6) rfl rfl rfl ((x_alloc rfl ZV_82).trans (by rw [hb39, hw39]; rfl)) ?_
      obtain ⟨q40, h⟩ := h
      obtain ⟨w7, hw40⟩ : ∃ u, u = setAll w6 (Addr.mk b39 0 none) [(Value.int .i64 x37), (Value.int .i64 x38)] 0 := ⟨_, rfl⟩
      replace h := h w7 hw40
      refine wpR_skp (w' := w7) rfl rfl ((x_store (v := (Value.agg #[(Value.int .i64 x37), (Value.int .i64 x38)])) rfl rfl rfl SZ_82 (ones (by rfl)) q40).trans (by rw [hw40]; rfl)) ?_
      refine wpR_nil ?_
      refine wpC_seq ?_
      refine wpC_cut (fun ρ => ρ 1 = (Value.pointer (some (Addr.mk b9 0 none))) ∧ ρ 6 = (Value.pointer (some (Addr.mk b39 0 none))) ∧ ρ 56 = (Sl.v (⟨some ⟨b33, 0, none⟩, 6, 6⟩ : Sl)) ∧ ρ 57 = (Value.int .i64 ((⟨some ⟨b33, 0, none⟩, 6, 6⟩ : Sl).len : Int)) ∧ ρ 58 = (Value.int .i64 l34) ∧ True) ⟨e1, rfl, e56, e57, e58, trivial⟩ ?_
      rintro ρ ⟨e1, e6, e56, e57, e58, -⟩
      refine wpC_region ?_
      obtain ⟨p41, w8, q41, h⟩ := h
      refine wpR_val (v := (Value.pointer (some p41))) (w' := w8) rfl rfl rfl (x_indexAt rfl e6 rfl q41) ?_
      obtain ⟨x42, q42, h⟩ := h
      refine wpR_val (v := (Value.int .i64 x42)) (w' := w8) rfl rfl rfl (x_load1 rfl rfl SH_3 q42) ?_
      refine wpR_val (v := (Value.bool (decide (x42 < 0)))) (w' := w8) rfl rfl rfl (x_lss rfl rfl rfl) ?_
      refine wpR_val (v := (Value.bool (decide (x42 < 0)))) (w' := w8) rfl rfl rfl (x_move (v := (Value.bool (decide (x42 < 0)))) rfl rfl) ?_
      obtain ⟨J43, h, hk⟩ := h
      refine wpR_joinJ 6 (fun x ρ => ρ 71 = Value.bool x ∧ ρ 1 = (Value.pointer (some (Addr.mk b9 0 none))) ∧ ρ 56 = (Sl.v (⟨some ⟨b33, 0, none⟩, 6, 6⟩ : Sl)) ∧ ρ 57 = (Value.int .i64 ((⟨some ⟨b33, 0, none⟩, 6, 6⟩ : Sl).len : Int)) ∧ ρ 58 = (Value.int .i64 l34) ∧ True) (J43) ?_ ?_
      · clear hk
        rcases Bool.eq_false_or_eq_true (decide (x42 < 0)) with hc44 | hc44
        · replace h := h.1 hc44
          refine wpR_pass (wantN rfl rfl rfl hc44) rfl rfl ?_
          refine wpR_pass (wantN rfl rfl rfl hc44) rfl rfl ?_
          refine wpR_pass (wantN rfl rfl rfl hc44) rfl rfl ?_
          refine wpR_pass (wantN rfl rfl rfl hc44) rfl rfl ?_
          refine wpR_pass (wantN rfl rfl rfl hc44) rfl rfl ?_
          refine wpR_val (v := (Value.bool true)) (w' := w8) rfl rfl rfl (x_pickT (v := (Value.bool true)) rfl rfl hc44 rfl) ?_
          refine wpR_nil ?_
          exact ⟨true, ⟨rfl, e1, e56, e57, e58, trivial⟩, h⟩
        · replace h := h.2 hc44
          obtain ⟨p45, w9, q45, h⟩ := h
          refine wpR_val (v := (Value.pointer (some p45))) (w' := w9) (wantG rfl rfl rfl hc44) rfl rfl (x_indexAt rfl e6 rfl q45) ?_
          obtain ⟨x46, q46, h⟩ := h
          refine wpR_val (v := (Value.int .i64 x46)) (w' := w9) (wantG rfl rfl rfl hc44) rfl rfl (x_load1 rfl rfl SH_3 q46) ?_
          obtain ⟨p47, w10, q47, h⟩ := h
          refine wpR_val (v := (Value.pointer (some p47))) (w' := w10) (wantG rfl rfl rfl hc44) rfl rfl (x_indexAt rfl e6 rfl q47) ?_
          obtain ⟨x48, q48, h⟩ := h
          refine wpR_val (v := (Value.int .i64 x48)) (w' := w10) (wantG rfl rfl rfl hc44) rfl rfl (x_load1 rfl rfl SH_3 q48) ?_
          refine wpR_val (v := (Value.bool (decide (x48 ≤ x46)))) (w' := w10) (wantG rfl rfl rfl hc44) rfl rfl (x_geq rfl rfl rfl) ?_
          refine wpR_val (v := (Value.bool (decide (x48 ≤ x46)))) (w' := w10) rfl rfl rfl (x_pickF (v := (Value.bool (decide (x48 ≤ x46)))) rfl rfl hc44 rfl) ?_
          refine wpR_nil ?_
          exact ⟨decide (x48 ≤ x46), ⟨rfl, e1, e56, e57, e58, trivial⟩, h⟩
      clear h
      rintro c49 ρ w11 ⟨e71, e1, e56, e57, e58, -⟩ h
      replace h := hk c49 w11 h
      clear hk
      refine wpR_nil ?_
      refine wpC_cond (b := c49) e71 (fun hc50 => ?_) (fun hc50 => ?_)
      · replace h := h.1 hc50
        refine wpC_seq ?_
        refine wpC_region ?_
        refine wpR_val (v := (Value.bool false)) (w' := w11) rfl rfl rfl (x_assign (v := (Value.bool false)) rfl rfl) ?_
        refine wpR_nil ?_
        refine wpC_ret ?_
        exact ⟨.inl rfl, fun a ha => ⟨_, results_rep1 rfl ha rfl, false, rfl, h⟩⟩
      · replace h := h.2 hc50
        refine wpC_skip ?_
        refine wpC_region ?_
        refine wpR_val (v := (Value.int .i64 (IntKind.i64.wrap (l34 + 1)))) (w' := w11) rfl rfl rfl (x_add rfl e58 rfl) ?_
        refine wpR_val (v := (Value.int .i64 (IntKind.i64.wrap (l34 + 1)))) (w' := w11) rfl rfl rfl (x_move (v := (Value.int .i64 (IntKind.i64.wrap (l34 + 1)))) rfl rfl) ?_
        refine wpR_nil ?_
        exact ⟨IntKind.i64.wrap (l34 + 1), ⟨rfl, e1, e56, e57, trivial⟩, h⟩
    · replace h := h.2 hc35
      refine wpC_exit ?_
      refine wpC_seq ?_
      refine wpC_block ?_
      obtain ⟨J51, h, hk⟩ := h
      refine wpC_seqJ (fun (x : Bool) ρ => ρ 73 = (Value.bool x) ∧ ρ 1 = (Value.pointer (some (Addr.mk b9 0 none))) ∧ True) J51 ?_ ?_
      · clear hk
        refine wpC_seq ?_
        refine wpC_cut (fun ρ => ρ 1 = (Value.pointer (some (Addr.mk b9 0 none))) ∧ True) ⟨e1, trivial⟩ ?_
        rintro ρ ⟨e1, -⟩
        refine wpC_region ?_
        refine wpR_val (v := (Value.pointer (some ((Addr.mk b9 0 none).add 0)))) (w' := w5) rfl rfl rfl (x_fieldAddr rfl e1 FA_24_0) ?_
        obtain ⟨x53, q53, h⟩ := h
        refine wpR_val (v := (Value.string x53)) (w' := w5) rfl rfl rfl (x_load1 rfl rfl SH_9 q53) ?_
        refine wpR_enter rfl rfl rfl (x_call (vs := [(Value.string x53)]) rfl rfl (mapl_cons rfl mapl_nil) Try.func53 NN_53 NB_53) (Calls.mono h ?_)
        rintro _ w13 ⟨r54, rfl, h⟩
        refine ⟨_, rfl, ?_⟩
        refine wpR_val (v := (Value.bool (!r54))) (w' := w13) rfl rfl rfl (x_not rfl rfl) ?_
        refine wpR_val (v := (Value.bool (!r54))) (w' := w13) rfl rfl rfl (x_assign (v := (Value.bool (!r54))) rfl rfl) ?_
        refine wpR_nil ?_
        refine wpC_cond (b := !r54) rfl (fun hc55 => ?_) (fun hc55 => ?_)
        · replace h := h.1 hc55
          refine wpC_skip ?_
          exact ⟨!r54, ⟨rfl, e1, trivial⟩, h⟩
        · replace h := h.2 hc55
          refine wpC_seq ?_
          refine wpC_cut (fun ρ => ρ 1 = (Value.pointer (some (Addr.mk b9 0 none))) ∧ True) ⟨e1, trivial⟩ ?_
          rintro ρ ⟨e1, -⟩
          refine wpC_region ?_
          refine wpR_val (v := (Value.pointer (some ((Addr.mk b9 0 none).add 1)))) (w' := w13) rfl rfl rfl (x_fieldAddr rfl e1 FA_24_1) ?_
          obtain ⟨x56, q56, h⟩ := h
          refine wpR_val (v := (Value.int .i64 x56)) (w' := w13) rfl rfl rfl (x_load1 rfl rfl SH_3 q56) ?_
          refine wpR_val (v := (Value.bool (!decide (x56 = 0)))) (w' := w13) rfl rfl rfl (x_neq rfl rfl rfl) ?_
          refine wpR_val (v := (Value.bool (!decide (x56 = 0)))) (w' := w13) rfl rfl rfl (x_move (v := (Value.bool (!decide (x56 = 0)))) rfl rfl) ?_
          obtain ⟨J57, h, hk⟩ := h
          refine wpR_joinJ 4 (fun x ρ => ρ 85 = Value.bool x ∧ ρ 1 = (Value.pointer (some (Addr.mk b9 0 none))) ∧ True) (fun x w => J57 x ∧ w13 = w) ?_ ?_
          · clear hk
            rcases Bool.eq_false_or_eq_true (!decide (x56 = 0)) with hc58 | hc58
            · replace h := h.1 hc58
              refine wpR_val (v := (Value.pointer (some ((Addr.mk b9 0 none).add 1)))) (w' := w13) (wantG rfl rfl rfl hc58) rfl rfl (x_fieldAddr rfl e1 FA_24_1) ?_
              obtain ⟨x59, q59, h⟩ := h
              refine wpR_val (v := (Value.int .i64 x59)) (w' := w13) (wantG rfl rfl rfl hc58) rfl rfl (x_load1 rfl rfl SH_3 q59) ?_
              refine wpR_val (v := (Value.bool (!decide (x59 = 2)))) (w' := w13) (wantG rfl rfl rfl hc58) rfl rfl (x_neq rfl rfl rfl) ?_
              refine wpR_val (v := (Value.bool (!decide (x59 = 2)))) (w' := w13) rfl rfl rfl (x_pickT (v := (Value.bool (!decide (x59 = 2)))) rfl rfl hc58 rfl) ?_
              refine wpR_nil ?_
              exact ⟨!decide (x59 = 2), ⟨rfl, e1, trivial⟩, h, rfl⟩
            · replace h := h.2 hc58
              refine wpR_pass (wantN rfl rfl rfl hc58) rfl rfl ?_
              refine wpR_pass (wantN rfl rfl rfl hc58) rfl rfl ?_
              refine wpR_pass (wantN rfl rfl rfl hc58) rfl rfl ?_
              refine wpR_val (v := (Value.bool false)) (w' := w13) rfl rfl rfl (x_pickF (v := (Value.bool false)) rfl rfl hc58 rfl) ?_
              refine wpR_nil ?_
              exact ⟨false, ⟨rfl, e1, trivial⟩, h, rfl⟩
          clear h
          rintro c60 ρ wj ⟨e85, e1, -⟩ ⟨h, rfl⟩
          replace h := hk c60 h
          clear hk
          refine wpR_val (v := (Value.bool c60)) (w' := w13) rfl rfl rfl (x_assign (v := (Value.bool c60)) rfl e85) ?_
          refine wpR_nil ?_
          refine wpC_cond (b := c60) rfl (fun hc61 => ?_) (fun hc61 => ?_)
          · replace h := h.1 hc61
            refine wpC_skip ?_
            exact ⟨c60, ⟨rfl, e1, trivial⟩, h⟩
          · replace h := h.2 hc61
            refine wpC_cut (fun ρ => ρ 1 = (Value.pointer (some (Addr.mk b9 0 none))) ∧ True) ⟨e1, trivial⟩ ?_
            rintro ρ ⟨e1, -⟩
            refine wpC_region ?_
            refine wpR_val (v := (Value.pointer (some ((Addr.mk b9 0 none).add 1)))) (w' := w13) rfl rfl rfl (x_fieldAddr rfl e1 FA_24_1) ?_
            obtain ⟨x62, q62, h⟩ := h
            refine wpR_val (v := (Value.int .i64 x62)) (w' := w13) rfl rfl rfl (x_load1 rfl rfl SH_3 q62) ?_
            refine wpR_val (v := (Value.bool (decide (x62 = 0)))) (w' := w13) rfl rfl rfl (x_eql rfl rfl rfl) ?_
            refine wpR_val (v := (Value.bool (decide (x62 = 0)))) (w' := w13) rfl rfl rfl (x_move (v := (Value.bool (decide (x62 = 0)))) rfl rfl) ?_
            obtain ⟨J63, h, hk⟩ := h
            refine wpR_joinJ 4 (fun x ρ => ρ 93 = Value.bool x ∧ ρ 1 = (Value.pointer (some (Addr.mk b9 0 none))) ∧ True) (fun x w => J63 x ∧ w13 = w) ?_ ?_
            · clear hk
              rcases Bool.eq_false_or_eq_true (decide (x62 = 0)) with hc64 | hc64
              · replace h := h.1 hc64
                refine wpR_val (v := (Value.pointer (some ((Addr.mk b9 0 none).add 2)))) (w' := w13) (wantG rfl rfl rfl hc64) rfl rfl (x_fieldAddr rfl e1 FA_24_2) ?_
                obtain ⟨x65, q65, h⟩ := h
                refine wpR_val (v := (Value.int .i64 x65)) (w' := w13) (wantG rfl rfl rfl hc64) rfl rfl (x_load1 rfl rfl SH_3 q65) ?_
                refine wpR_val (v := (Value.bool (decide (0 < x65)))) (w' := w13) (wantG rfl rfl rfl hc64) rfl rfl (x_gtr rfl rfl rfl) ?_
                refine wpR_val (v := (Value.bool (decide (0 < x65)))) (w' := w13) rfl rfl rfl (x_pickT (v := (Value.bool (decide (0 < x65)))) rfl rfl hc64 rfl) ?_
                refine wpR_nil ?_
                exact ⟨decide (0 < x65), ⟨rfl, e1, trivial⟩, h, rfl⟩
              · replace h := h.2 hc64
                refine wpR_pass (wantN rfl rfl rfl hc64) rfl rfl ?_
                refine wpR_pass (wantN rfl rfl rfl hc64) rfl rfl ?_
                refine wpR_pass (wantN rfl rfl rfl hc64) rfl rfl ?_
                refine wpR_val (v := (Value.bool false)) (w' := w13) rfl rfl rfl (x_pickF (v := (Value.bool false)) rfl rfl hc64 rfl) ?_
                refine wpR_nil ?_
                exact ⟨false, ⟨rfl, e1, trivial⟩, h, rfl⟩
            clear h
            rintro c66 ρ wj ⟨e93, e1, -⟩ ⟨h, rfl⟩
            replace h := hk c66 h
            clear hk
            refine wpR_val (v := (Value.bool c66)) (w' := w13) rfl rfl rfl (x_assign (v := (Value.bool c66)) rfl e93) ?_
            refine wpR_nil ?_
            exact ⟨c66, ⟨rfl, e1, trivial⟩, h⟩
      clear h
      rintro l52 ρ w12 ⟨e73, e1, -⟩ h
      replace h := hk l52 w12 h
      clear hk
      refine wpC_cond (b := l52) e73 (fun hc67 => ?_) (fun hc67 => ?_)
      · replace h := h.1 hc67
        refine wpC_seq ?_
        refine wpC_region ?_
        refine wpR_val (v := (Value.bool false)) (w' := w12) rfl rfl rfl (x_assign (v := (Value.bool false)) rfl rfl) ?_
        refine wpR_nil ?_
        refine wpC_ret ?_
        exact ⟨.inl rfl, fun a ha => ⟨_, results_rep1 rfl ha rfl, false, rfl, h⟩⟩
      · replace h := h.2 hc67
        refine wpC_seq ?_
        refine wpC_region ?_
        refine wpR_val (v := (Value.pointer (some ((Addr.mk b9 0 none).add 10)))) (w' := w12) rfl rfl rfl (x_fieldAddr rfl e1 FA_24_10) ?_
        obtain ⟨x68, q68, h⟩ := h
        refine wpR_val (v := (Value.int .i64 x68)) (w' := w12) rfl rfl rfl (x_load1 rfl rfl SH_3 q68) ?_
        refine wpR_val (v := (Value.bool (decide (x68 = 0)))) (w' := w12) rfl rfl rfl (x_eql rfl rfl rfl) ?_
        refine wpR_val (v := (Value.bool (decide (x68 = 0)))) (w' := w12) rfl rfl rfl (x_assign (v := (Value.bool (decide (x68 = 0)))) rfl rfl) ?_
        refine wpR_nil ?_
        refine wpC_cond (b := decide (x68 = 0)) rfl (fun hc69 => ?_) (fun hc69 => ?_)
        · replace h := h.1 hc69
          refine wpC_seq ?_
          refine wpC_cut (fun ρ => ρ 1 = (Value.pointer (some (Addr.mk b9 0 none))) ∧ True) ⟨e1, trivial⟩ ?_
          rintro ρ ⟨e1, -⟩
          refine wpC_region ?_
          refine wpR_val (v := (Value.pointer (some ((Addr.mk b9 0 none).add 11)))) (w' := w12) rfl rfl rfl (x_fieldAddr rfl e1 FA_24_11) ?_
          obtain ⟨x70, q70, h⟩ := h
          refine wpR_val (v := (Value.int .i64 x70)) (w' := w12) rfl rfl rfl (x_load1 rfl rfl SH_3 q70) ?_
          refine wpR_val (v := (Value.bool (decide (x70 = 0)))) (w' := w12) rfl rfl rfl (x_eql rfl rfl rfl) ?_
          refine wpR_val (v := (Value.bool (decide (x70 = 0)))) (w' := w12) rfl rfl rfl (x_move (v := (Value.bool (decide (x70 = 0)))) rfl rfl) ?_
          obtain ⟨J71, h, hk⟩ := h
          refine wpR_joinJ 5 (fun x ρ => ρ 106 = Value.bool x ∧ True) (fun x w => J71 x ∧ w12 = w) ?_ ?_
          · clear hk
            rcases Bool.eq_false_or_eq_true (decide (x70 = 0)) with hc72 | hc72
            · replace h := h.1 hc72
              refine wpR_val (v := (Value.pointer (some ((Addr.mk b9 0 none).add 12)))) (w' := w12) (wantG rfl rfl rfl hc72) rfl rfl (x_fieldAddr rfl e1 FA_24_12) ?_
              obtain ⟨x73, q73, h⟩ := h
              refine wpR_val (v := (Sl.v x73)) (w' := w12) (wantG rfl rfl rfl hc72) rfl rfl (x_load1 rfl rfl SH_22 q73) ?_
              refine wpR_val (v := (Value.int .i64 (x73.len : Int))) (w' := w12) (wantG rfl rfl rfl hc72) rfl rfl (x_lenS (s := x73) rfl rfl isSliceT_22) ?_
              refine wpR_val (v := (Value.bool (decide ((x73.len : Int) = 0)))) (w' := w12) (wantG rfl rfl rfl hc72) rfl rfl (x_eql rfl rfl rfl) ?_
              refine wpR_val (v := (Value.bool (decide ((x73.len : Int) = 0)))) (w' := w12) rfl rfl rfl (x_pickT (v := (Value.bool (decide ((x73.len : Int) = 0)))) rfl rfl hc72 rfl) ?_
              refine wpR_nil ?_
              exact ⟨decide ((x73.len : Int) = 0), ⟨rfl, trivial⟩, h, rfl⟩
            · replace h := h.2 hc72
              refine wpR_pass (wantN rfl rfl rfl hc72) rfl rfl ?_
              refine wpR_pass (wantN rfl rfl rfl hc72) rfl rfl ?_
              refine wpR_pass (wantN rfl rfl rfl hc72) rfl rfl ?_
              refine wpR_pass (wantN rfl rfl rfl hc72) rfl rfl ?_
              refine wpR_val (v := (Value.bool false)) (w' := w12) rfl rfl rfl (x_pickF (v := (Value.bool false)) rfl rfl hc72 rfl) ?_
              refine wpR_nil ?_
              exact ⟨false, ⟨rfl, trivial⟩, h, rfl⟩
          clear h
          rintro c74 ρ wj ⟨e106, -⟩ ⟨h, rfl⟩
          replace h := hk c74 h
          clear hk
          refine wpR_val (v := (Value.bool c74)) (w' := w12) rfl rfl rfl (x_assign (v := (Value.bool c74)) rfl e106) ?_
          refine wpR_nil ?_
          refine wpC_ret ?_
          exact ⟨.inl rfl, fun a ha => ⟨_, results_rep1 rfl ha rfl, c74, rfl, h⟩⟩
        · replace h := h.2 hc69
          refine wpC_skip ?_
          refine wpC_seq ?_
          refine wpC_cut (fun ρ => ρ 1 = (Value.pointer (some (Addr.mk b9 0 none))) ∧ True) ⟨e1, trivial⟩ ?_
          rintro ρ ⟨e1, -⟩
          refine wpC_region ?_
          refine wpR_val (v := (Value.pointer (some ((Addr.mk b9 0 none).add 12)))) (w' := w12) rfl rfl rfl (x_fieldAddr rfl e1 FA_24_12) ?_
          obtain ⟨x75, q75, h⟩ := h
          refine wpR_val (v := (Sl.v x75)) (w' := w12) rfl rfl rfl (x_load1 rfl rfl SH_22 q75) ?_
          refine wpR_val (v := (Value.int .i64 (x75.len : Int))) (w' := w12) rfl rfl rfl (x_lenS (s := x75) rfl rfl isSliceT_22) ?_
          refine wpR_val (v := (Value.bool (decide (1 ≤ (x75.len : Int))))) (w' := w12) rfl rfl rfl (x_geq rfl rfl rfl) ?_
          refine wpR_val (v := (Value.bool (decide (1 ≤ (x75.len : Int))))) (w' := w12) rfl rfl rfl (x_move (v := (Value.bool (decide (1 ≤ (x75.len : Int))))) rfl rfl) ?_
          obtain ⟨J76, h, hk⟩ := h
          refine wpR_joinJ 5 (fun x ρ => ρ 116 = Value.bool x ∧ ρ 1 = (Value.pointer (some (Addr.mk b9 0 none))) ∧ True) (fun x w => J76 x ∧ w12 = w) ?_ ?_
          · clear hk
            rcases Bool.eq_false_or_eq_true (decide (1 ≤ (x75.len : Int))) with hc77 | hc77
            · replace h := h.1 hc77
              refine wpR_val (v := (Value.pointer (some ((Addr.mk b9 0 none).add 12)))) (w' := w12) (wantG rfl rfl rfl hc77) rfl rfl (x_fieldAddr rfl e1 FA_24_12) ?_
              obtain ⟨x78, q78, h⟩ := h
              refine wpR_val (v := (Sl.v x78)) (w' := w12) (wantG rfl rfl rfl hc77) rfl rfl (x_load1 rfl rfl SH_22 q78) ?_
              refine wpR_val (v := (Value.int .i64 (x78.len : Int))) (w' := w12) (wantG rfl rfl rfl hc77) rfl rfl (x_lenS (s := x78) rfl rfl isSliceT_22) ?_
              refine wpR_val (v := (Value.bool (decide ((x78.len : Int) ≤ 20)))) (w' := w12) (wantG rfl rfl rfl hc77) rfl rfl (x_leq rfl rfl rfl) ?_
              refine wpR_val (v := (Value.bool (decide ((x78.len : Int) ≤ 20)))) (w' := w12) rfl rfl rfl (x_pickT (v := (Value.bool (decide ((x78.len : Int) ≤ 20)))) rfl rfl hc77 rfl) ?_
              refine wpR_nil ?_
              exact ⟨decide ((x78.len : Int) ≤ 20), ⟨rfl, e1, trivial⟩, h, rfl⟩
            · replace h := h.2 hc77
              refine wpR_pass (wantN rfl rfl rfl hc77) rfl rfl ?_
              refine wpR_pass (wantN rfl rfl rfl hc77) rfl rfl ?_
              refine wpR_pass (wantN rfl rfl rfl hc77) rfl rfl ?_
              refine wpR_pass (wantN rfl rfl rfl hc77) rfl rfl ?_
              refine wpR_val (v := (Value.bool false)) (w' := w12) rfl rfl rfl (x_pickF (v := (Value.bool false)) rfl rfl hc77 rfl) ?_
              refine wpR_nil ?_
              exact ⟨false, ⟨rfl, e1, trivial⟩, h, rfl⟩
          clear h
          rintro c79 ρ wj ⟨e116, e1, -⟩ ⟨h, rfl⟩
          replace h := hk c79 h
          clear hk
          refine wpR_val (v := (Value.bool c79)) (w' := w12) rfl rfl rfl (x_move (v := (Value.bool c79)) rfl e116) ?_
          obtain ⟨J80, h, hk⟩ := h
          refine wpR_joinJ 5 (fun x ρ => ρ 122 = Value.bool x ∧ True) (J80) ?_ ?_
          · clear hk
            rcases Bool.eq_false_or_eq_true (c79) with hc81 | hc81
            · replace h := h.1 hc81
              refine wpR_val (v := (Value.pointer (some ((Addr.mk b9 0 none).add 12)))) (w' := w12) (wantG rfl rfl rfl hc81) rfl rfl (x_fieldAddr rfl e1 FA_24_12) ?_
              obtain ⟨x82, q82, h⟩ := h
              refine wpR_val (v := (Sl.v x82)) (w' := w12) (wantG rfl rfl rfl hc81) rfl rfl (x_load1 rfl rfl SH_22 q82) ?_
              refine wpR_enter (wantG rfl rfl rfl hc81) rfl rfl (x_call (vs := [(Sl.v x82), (Value.func (.func 54) #[] #[])]) rfl rfl (mapl_cons rfl (mapl_cons rfl mapl_nil)) Try.func47 NN_47 NB_47) (Calls.mono h ?_)
              rintro _ w14 ⟨r83, rfl, h⟩
              refine ⟨_, rfl, ?_⟩
              refine wpR_val (v := (Value.bool (!r83))) (w' := w14) (wantG rfl rfl rfl hc81) rfl rfl (x_not rfl rfl) ?_
              refine wpR_val (v := (Value.bool (!r83))) (w' := w14) rfl rfl rfl (x_pickT (v := (Value.bool (!r83))) rfl rfl hc81 rfl) ?_
              refine wpR_nil ?_
              exact ⟨!r83, ⟨rfl, trivial⟩, h⟩
            · replace h := h.2 hc81
              refine wpR_pass (wantN rfl rfl rfl hc81) rfl rfl ?_
              refine wpR_pass (wantN rfl rfl rfl hc81) rfl rfl ?_
              refine wpR_pass (wantN rfl rfl rfl hc81) rfl rfl ?_
              refine wpR_pass (wantN rfl rfl rfl hc81) rfl rfl ?_
              refine wpR_val (v := (Value.bool false)) (w' := w12) rfl rfl rfl (x_pickF (v := (Value.bool false)) rfl rfl hc81 rfl) ?_
              refine wpR_nil ?_
              exact ⟨false, ⟨rfl, trivial⟩, h⟩
          clear h
          rintro c84 ρ w15 ⟨e122, -⟩ h
          replace h := hk c84 w15 h
          clear hk
          refine wpR_val (v := (Value.bool c84)) (w' := w15) rfl rfl rfl (x_assign (v := (Value.bool c84)) rfl e122) ?_
          refine wpR_nil ?_
          refine wpC_ret ?_
          exact ⟨.inl rfl, fun a ha => ⟨_, results_rep1 rfl ha rfl, c84, rfl, h⟩⟩

/-- profile.within -/
def F40 (p0 : Int) (p1 : Int) (p2 : Int) (w0 : World) (K : Bool → World → Prop) : Prop :=
  K ((decide (p1 ≤ p0)) && (decide (p0 ≤ p2))) w0
set_option maxRecDepth 100000 in
theorem D40 (p0 : Int) (p1 : Int) (p2 : Int) (w0 : World) (K : Bool → World → Prop) (h : F40 p0 p1 p2 w0 K) : callC Try.prog 40 #[(Value.int .i64 p0), (Value.int .i64 p1), (Value.int .i64 p2)] (fun (r : Bool) => (Value.bool r)) w0 K := by
  unfold F40 at h
  refine calls_of_wpC Try.func40 rfl 15 rfl (by simp) ?_
  intro ρ hρ
  have e0 : ρ 0 = (Value.int .i64 p0) := hρ 0
  have e1 : ρ 1 = (Value.int .i64 p1) := hρ 1
  have e2 : ρ 2 = (Value.int .i64 p2) := hρ 2
  clear hρ
  refine wpC_seq ?_
  refine wpC_region ?_
  refine wpR_val (v := (Value.bool false)) (w' := w0) rfl rfl rfl (x_assign (v := (Value.bool false)) rfl rfl) ?_
  refine wpR_nil ?_
  refine wpC_seq ?_
  refine wpC_cut (fun ρ => ρ 0 = (Value.int .i64 p0) ∧ ρ 1 = (Value.int .i64 p1) ∧ ρ 2 = (Value.int .i64 p2) ∧ True) ⟨e0, e1, e2, trivial⟩ ?_
  rintro ρ ⟨e0, e1, e2, -⟩
  refine wpC_region ?_
  refine wpR_val (v := (Value.int .i64 p0)) (w' := w0) rfl rfl rfl (x_move (v := (Value.int .i64 p0)) rfl e0) ?_
  refine wpR_val (v := (Value.int .i64 p1)) (w' := w0) rfl rfl rfl (x_move (v := (Value.int .i64 p1)) rfl e1) ?_
  refine wpR_val (v := (Value.bool (decide (p1 ≤ p0)))) (w' := w0) rfl rfl rfl (x_geq rfl rfl rfl) ?_
  refine wpR_val (v := (Value.bool (decide (p1 ≤ p0)))) (w' := w0) rfl rfl rfl (x_move (v := (Value.bool (decide (p1 ≤ p0)))) rfl rfl) ?_
  refine wpR_joinJ 4 (fun (_ : Unit) ρ => ρ 14 = Value.bool ((decide (p1 ≤ p0)) && (decide (p0 ≤ p2))) ∧ True) (fun _ w => w0 = w) ?_ ?_
  · clear h
    rcases Bool.eq_false_or_eq_true (decide (p1 ≤ p0)) with hc10 | hc10
    · skip
      refine wpR_val (v := (Value.int .i64 p0)) (w' := w0) (wantG rfl rfl rfl hc10) rfl rfl (x_move (v := (Value.int .i64 p0)) rfl e0) ?_
      refine wpR_val (v := (Value.int .i64 p2)) (w' := w0) (wantG rfl rfl rfl hc10) rfl rfl (x_move (v := (Value.int .i64 p2)) rfl e2) ?_
      refine wpR_val (v := (Value.bool (decide (p0 ≤ p2)))) (w' := w0) (wantG rfl rfl rfl hc10) rfl rfl (x_leq rfl rfl rfl) ?_
      refine wpR_val (v := (Value.bool (decide (p0 ≤ p2)))) (w' := w0) rfl rfl rfl (x_pickT (v := (Value.bool (decide (p0 ≤ p2)))) rfl rfl hc10 rfl) ?_
      refine wpR_nil ?_
      exact ⟨(), ⟨(by rw [hc10]; rfl), trivial⟩, rfl⟩
    · skip
      refine wpR_pass (wantN rfl rfl rfl hc10) rfl rfl ?_
      refine wpR_pass (wantN rfl rfl rfl hc10) rfl rfl ?_
      refine wpR_pass (wantN rfl rfl rfl hc10) rfl rfl ?_
      refine wpR_val (v := (Value.bool false)) (w' := w0) rfl rfl rfl (x_pickF (v := (Value.bool false)) rfl rfl hc10 rfl) ?_
      refine wpR_nil ?_
      exact ⟨(), ⟨(by rw [hc10]; rfl), trivial⟩, rfl⟩
  rintro _ ρ wj ⟨e14, -⟩ rfl
  refine wpR_val (v := (Value.bool ((decide (p1 ≤ p0)) && (decide (p0 ≤ p2))))) (w' := w0) rfl rfl rfl (x_assign (v := (Value.bool ((decide (p1 ≤ p0)) && (decide (p0 ≤ p2))))) rfl e14) ?_
  refine wpR_nil ?_
  refine wpC_ret ?_
  exact ⟨.inl rfl, fun a ha => ⟨_, results_rep1 rfl ha rfl, (decide (p1 ≤ p0)) && (decide (p0 ≤ p2)), rfl, h⟩⟩

/-- profile.together -/
def F41 (p0_0 : ByteArray) (p0_1 : Int) (p0_2 : Int) (p0_3 : Int) (p0_4 : Bool) (p0_5 : Int) (p0_6 : Bool) (p0_7 : Bool) (p0_8 : Int) (p0_9 : Int) (p0_10 : Int) (p0_11 : Int) (p0_12 : Sl) (p0_13 : Int) (p0_14 : Int) (p0_15 : Int) (p0_16 : Int) (p0_17 : Bool) (p0_18 : Int) (p0_19 : Int) (p0_20 : Int) (p0_21 : Int) (w0 : World) (K : Bool → World → Prop) : Prop :=
  nw 24 (A23 p0_0 p0_1 p0_2 p0_3 p0_4 p0_5 p0_6 p0_7 p0_8 p0_9 p0_10 p0_11 p0_12 p0_13 p0_14 p0_15 p0_16 p0_17 p0_18 p0_19 p0_20 p0_21) w0 fun b9 w1 =>
  ld (Value.int .i64) ((Addr.mk b9 0 none).add 10) w1 fun x10 =>
  ld (Value.int .i64) ((Addr.mk b9 0 none).add 11) w1 fun x11 =>
  jp (fun J12 => cnd ((decide (x10 = 0)) == (decide (x11 = 0)))
    (
    ld (Value.int .i64) ((Addr.mk b9 0 none).add 10) w1 fun x14 =>
    ld Sl.v ((Addr.mk b9 0 none).add 12) w1 fun x15 =>
    J12 ((decide (x14 = 0)) == (decide ((x15.len : Int) = 0)))
    )
    (
    J12 false
    ))
  fun c16 =>
  K c16 w1
set_option maxRecDepth 100000 in
theorem D41 (p0_0 : ByteArray) (p0_1 : Int) (p0_2 : Int) (p0_3 : Int) (p0_4 : Bool) (p0_5 : Int) (p0_6 : Bool) (p0_7 : Bool) (p0_8 : Int) (p0_9 : Int) (p0_10 : Int) (p0_11 : Int) (p0_12 : Sl) (p0_13 : Int) (p0_14 : Int) (p0_15 : Int) (p0_16 : Int) (p0_17 : Bool) (p0_18 : Int) (p0_19 : Int) (p0_20 : Int) (p0_21 : Int) (w0 : World) (K : Bool → World → Prop) (h : F41 p0_0 p0_1 p0_2 p0_3 p0_4 p0_5 p0_6 p0_7 p0_8 p0_9 p0_10 p0_11 p0_12 p0_13 p0_14 p0_15 p0_16 p0_17 p0_18 p0_19 p0_20 p0_21 w0 K) : callC Try.prog 41 #[(V23 p0_0 p0_1 p0_2 p0_3 p0_4 p0_5 p0_6 p0_7 p0_8 p0_9 p0_10 p0_11 p0_12 p0_13 p0_14 p0_15 p0_16 p0_17 p0_18 p0_19 p0_20 p0_21)] (fun (r : Bool) => (Value.bool r)) w0 K := by
  unfold F41 at h
  refine calls_of_wpC Try.func41 rfl 20 rfl (by simp) ?_
  intro ρ hρ
  have e0 : ρ 0 = (V23 p0_0 p0_1 p0_2 p0_3 p0_4 p0_5 p0_6 p0_7 p0_8 p0_9 p0_10 p0_11 p0_12 p0_13 p0_14 p0_15 p0_16 p0_17 p0_18 p0_19 p0_20 p0_21) := hρ 0
  clear hρ
  refine wpC_seq ?_
  refine wpC_region ?_
  obtain ⟨b9, hb9⟩ : ∃ u, u = w0.heap.size := ⟨_, rfl⟩
  obtain ⟨w1, hw9⟩ : ∃ u, u = w0.alloc (.cells (A23 p0_0 p0_1 p0_2 p0_3 p0_4 p0_5 p0_6 p0_7 p0_8 p0_9 p0_10 p0_11 p0_12 p0_13 p0_14 p0_15 p0_16 p0_17 p0_18 p0_19 p0_20 p0_21) 24) := ⟨_, rfl⟩
  replace h := h b9 w1 hb9 hw9
  refine wpR_val (v := (Value.pointer (some (Addr.mk b9 0 none)))) (w' := w1) rfl rfl rfl ((x_box (v := (V23 p0_0 p0_1 p0_2 p0_3 p0_4 p0_5 p0_6 p0_7 p0_8 p0_9 p0_10 p0_11 p0_12 p0_13 p0_14 p0_15 p0_16 p0_17 p0_18 p0_19 p0_20 p0_21)) rfl e0).trans (by rw [hb9, hw9]; rfl)) ?_
  refine wpR_val (v := (Value.bool false)) (w' := w1) rfl rfl rfl (x_assign (v := (Value.bool false)) rfl rfl) ?_
  refine wpR_nil ?_
  refine wpC_seq ?_
  refine wpC_cut (fun ρ => ρ 1 = (Value.pointer (some (Addr.mk b9 0 none))) ∧ True) ⟨rfl, trivial⟩ ?_
  rintro ρ ⟨e1, -⟩
  refine wpC_region ?_
  refine wpR_val (v := (Value.pointer (some ((Addr.mk b9 0 none).add 10)))) (w' := w1) rfl rfl rfl (x_fieldAddr rfl e1 FA_24_10) ?_
  obtain ⟨x10, q10, h⟩ := h
  refine wpR_val (v := (Value.int .i64 x10)) (w' := w1) rfl rfl rfl (x_load1 rfl rfl SH_3 q10) ?_
  refine wpR_val (v := (Value.bool (decide (x10 = 0)))) (w' := w1) rfl rfl rfl (x_eql rfl rfl rfl) ?_
  refine wpR_val (v := (Value.pointer (some ((Addr.mk b9 0 none).add 11)))) (w' := w1) rfl rfl rfl (x_fieldAddr rfl e1 FA_24_11) ?_
  obtain ⟨x11, q11, h⟩ := h
  refine wpR_val (v := (Value.int .i64 x11)) (w' := w1) rfl rfl rfl (x_load1 rfl rfl SH_3 q11) ?_
  refine wpR_val (v := (Value.bool (decide (x11 = 0)))) (w' := w1) rfl rfl rfl (x_eql rfl rfl rfl) ?_
  refine wpR_val (v := (Value.bool ((decide (x10 = 0)) == (decide (x11 = 0))))) (w' := w1) rfl rfl rfl (x_eqlB rfl rfl rfl isBoolT_4) ?_
  refine wpR_val (v := (Value.bool ((decide (x10 = 0)) == (decide (x11 = 0))))) (w' := w1) rfl rfl rfl (x_move (v := (Value.bool ((decide (x10 = 0)) == (decide (x11 = 0))))) rfl rfl) ?_
  obtain ⟨J12, h, hk⟩ := h
  refine wpR_joinJ 9 (fun x ρ => ρ 19 = Value.bool x ∧ True) (fun x w => J12 x ∧ w1 = w) ?_ ?_
  · clear hk
    rcases Bool.eq_false_or_eq_true ((decide (x10 = 0)) == (decide (x11 = 0))) with hc13 | hc13
    · replace h := h.1 hc13
      refine wpR_val (v := (Value.pointer (some ((Addr.mk b9 0 none).add 10)))) (w' := w1) (wantG rfl rfl rfl hc13) rfl rfl (x_fieldAddr rfl e1 FA_24_10) ?_
      obtain ⟨x14, q14, h⟩ := h
      refine wpR_val (v := (Value.int .i64 x14)) (w' := w1) (wantG rfl rfl rfl hc13) rfl rfl (x_load1 rfl rfl SH_3 q14) ?_
      refine wpR_val (v := (Value.bool (decide (x14 = 0)))) (w' := w1) (wantG rfl rfl rfl hc13) rfl rfl (x_eql rfl rfl rfl) ?_
      refine wpR_val (v := (Value.pointer (some ((Addr.mk b9 0 none).add 12)))) (w' := w1) (wantG rfl rfl rfl hc13) rfl rfl (x_fieldAddr rfl e1 FA_24_12) ?_
      obtain ⟨x15, q15, h⟩ := h
      refine wpR_val (v := (Sl.v x15)) (w' := w1) (wantG rfl rfl rfl hc13) rfl rfl (x_load1 rfl rfl SH_22 q15) ?_
      refine wpR_val (v := (Value.int .i64 (x15.len : Int))) (w' := w1) (wantG rfl rfl rfl hc13) rfl rfl (x_lenS (s := x15) rfl rfl isSliceT_22) ?_
      refine wpR_val (v := (Value.bool (decide ((x15.len : Int) = 0)))) (w' := w1) (wantG rfl rfl rfl hc13) rfl rfl (x_eql rfl rfl rfl) ?_
      refine wpR_val (v := (Value.bool ((decide (x14 = 0)) == (decide ((x15.len : Int) = 0))))) (w' := w1) (wantG rfl rfl rfl hc13) rfl rfl (x_eqlB rfl rfl rfl isBoolT_4) ?_
      refine wpR_val (v := (Value.bool ((decide (x14 = 0)) == (decide ((x15.len : Int) = 0))))) (w' := w1) rfl rfl rfl (x_pickT (v := (Value.bool ((decide (x14 = 0)) == (decide ((x15.len : Int) = 0))))) rfl rfl hc13 rfl) ?_
      refine wpR_nil ?_
      exact ⟨(decide (x14 = 0)) == (decide ((x15.len : Int) = 0)), ⟨rfl, trivial⟩, h, rfl⟩
    · replace h := h.2 hc13
      refine wpR_pass (wantN rfl rfl rfl hc13) rfl rfl ?_
      refine wpR_pass (wantN rfl rfl rfl hc13) rfl rfl ?_
      refine wpR_pass (wantN rfl rfl rfl hc13) rfl rfl ?_
      refine wpR_pass (wantN rfl rfl rfl hc13) rfl rfl ?_
      refine wpR_pass (wantN rfl rfl rfl hc13) rfl rfl ?_
      refine wpR_pass (wantN rfl rfl rfl hc13) rfl rfl ?_
      refine wpR_pass (wantN rfl rfl rfl hc13) rfl rfl ?_
      refine wpR_pass (wantN rfl rfl rfl hc13) rfl rfl ?_
      refine wpR_val (v := (Value.bool false)) (w' := w1) rfl rfl rfl (x_pickF (v := (Value.bool false)) rfl rfl hc13 rfl) ?_
      refine wpR_nil ?_
      exact ⟨false, ⟨rfl, trivial⟩, h, rfl⟩
  clear h
  rintro c16 ρ wj ⟨e19, -⟩ ⟨h, rfl⟩
  replace h := hk c16 h
  clear hk
  refine wpR_val (v := (Value.bool c16)) (w' := w1) rfl rfl rfl (x_assign (v := (Value.bool c16)) rfl e19) ?_
  refine wpR_nil ?_
  refine wpC_ret ?_
  exact ⟨.inl rfl, fun a ha => ⟨_, results_rep1 rfl ha rfl, c16, rfl, h⟩⟩

/-- slices.Contains[[]string,string] -/
def F42 (p0 : Sl) (p1 : ByteArray) (w0 : World) (K : Bool → World → Prop) : Prop :=
  callC Try.prog 55 #[(Sl.v p0), (Value.string p1)] (fun (r : Int) => (Value.int .i64 r)) w0 fun r9 w1 =>
  K (decide (0 ≤ r9)) w1
set_option maxRecDepth 100000 in
theorem D42 (p0 : Sl) (p1 : ByteArray) (w0 : World) (K : Bool → World → Prop) (h : F42 p0 p1 w0 K) : callC Try.prog 42 #[(Sl.v p0), (Value.string p1)] (fun (r : Bool) => (Value.bool r)) w0 K := by
  unfold F42 at h
  refine calls_of_wpC Try.func42 rfl 9 rfl (by simp) ?_
  intro ρ hρ
  have e0 : ρ 0 = (Sl.v p0) := hρ 0
  have e1 : ρ 1 = (Value.string p1) := hρ 1
  clear hρ
  refine wpC_seq ?_
  refine wpC_region ?_
  refine wpR_val (v := (Value.bool false)) (w' := w0) rfl rfl rfl (x_assign (v := (Value.bool false)) rfl rfl) ?_
  refine wpR_nil ?_
  refine wpC_seq ?_
  refine wpC_cut (fun ρ => ρ 0 = (Sl.v p0) ∧ ρ 1 = (Value.string p1) ∧ True) ⟨e0, e1, trivial⟩ ?_
  rintro ρ ⟨e0, e1, -⟩
  refine wpC_region ?_
  refine wpR_val (v := (Sl.v p0)) (w' := w0) rfl rfl rfl (x_move (v := (Sl.v p0)) rfl e0) ?_
  refine wpR_val (v := (Value.string p1)) (w' := w0) rfl rfl rfl (x_move (v := (Value.string p1)) rfl e1) ?_
  refine wpR_enter rfl rfl rfl (x_call (vs := [(Sl.v p0), (Value.string p1)]) rfl rfl (mapl_cons rfl (mapl_cons rfl mapl_nil)) Try.func55 NN_55 NB_55) (Calls.mono h ?_)
  rintro _ w1 ⟨r9, rfl, h⟩
  refine ⟨_, rfl, ?_⟩
  refine wpR_val (v := (Value.bool (decide (0 ≤ r9)))) (w' := w1) rfl rfl rfl (x_geq rfl rfl rfl) ?_
  refine wpR_val (v := (Value.bool (decide (0 ≤ r9)))) (w' := w1) rfl rfl rfl (x_assign (v := (Value.bool (decide (0 ≤ r9)))) rfl rfl) ?_
  refine wpR_nil ?_
  refine wpC_ret ?_
  exact ⟨.inl rfl, fun a ha => ⟨_, results_rep1 rfl ha rfl, decide (0 ≤ r9), rfl, h⟩⟩

/-- ways.first -/
def F43 (p0 : Sl) (w0 : World) (K : (Int × Int) → World → Prop) : Prop :=
  nw 46 #[(Value.int .i64 0), (Value.int .i64 0)] w0 fun b9 w1 =>
  lp (fun (next10 : Int → World → Prop) l10 w2 =>
    cnd (decide (l10 < (p0.len : Int)))
      (
      ix p0 l10 3 fun p12 =>
      ld Value.bool (p12.add 0) w2 fun x13 =>
      ld (Value.int .i64) (p12.add 1) w2 fun x14 =>
      ld (Value.int .i64) (p12.add 2) w2 fun x15 =>
      nw 72 #[(Value.bool false), (Value.int .i64 0), (Value.int .i64 0)] w2 fun b16 w3 =>
      st (Addr.mk b16 0 none) [(Value.bool x13), (Value.int .i64 x14), (Value.int .i64 x15)] w3 fun w4 =>
      ld Value.bool ((Addr.mk b16 0 none).add 0) w4 fun x18 =>
      cnd (x18)
        (
        ld (Value.int .i64) (((Addr.mk b16 0 none).add 1).add 0) w4 fun x20 =>
        ld (Value.int .i64) (((Addr.mk b16 0 none).add 1).add 1) w4 fun x21 =>
        st (Addr.mk b9 0 none) [(Value.int .i64 x20), (Value.int .i64 x21)] w4 fun w5 =>
        ld (Value.int .i64) ((Addr.mk b9 0 none).add 0) w5 fun x23 =>
        ld (Value.int .i64) ((Addr.mk b9 0 none).add 1) w5 fun x24 =>
        K (x23, x24) w5
        )
        (
        next10 (IntKind.i64.wrap (l10 + 1)) w4
        )
      )
      (
      st (Addr.mk b9 0 none) [(Value.int .i64 5), (Value.int .i64 2)] w2 fun w6 =>
      ld (Value.int .i64) ((Addr.mk b9 0 none).add 0) w6 fun x26 =>
      ld (Value.int .i64) ((Addr.mk b9 0 none).add 1) w6 fun x27 =>
      K (x26, x27) w6
      )
  ) 0 w1
set_option maxRecDepth 100000 in
theorem D43 (p0 : Sl) (w0 : World) (K : (Int × Int) → World → Prop) (h : F43 p0 w0 K) : callC Try.prog 43 #[(Sl.v p0)] (fun (r : Int × Int) => (Value.agg #[(Value.int .i64 r.1), (Value.int .i64 r.2)])) w0 K := by
  unfold F43 at h
  refine calls_of_wpC Try.func43 rfl 17 rfl (by simp) ?_
  intro ρ hρ
  have e0 : ρ 0 = (Sl.v p0) := hρ 0
  clear hρ
  refine wpC_seq ?_
  refine wpC_region ?_
  obtain ⟨b9, hb9⟩ : ∃ u, u = w0.heap.size := ⟨_, rfl⟩
  obtain ⟨w1, hw9⟩ : ∃ u, u = w0.alloc (.cells #[(Value.int .i64 0), (Value.int .i64 0)] 46) := ⟨_, rfl⟩
  replace h := h b9 w1 hb9 hw9
  refine wpR_val (v := (Value.pointer (some (Addr.mk b9 0 none)))) (w' := w1) rfl rfl rfl ((x_alloc rfl ZV_46).trans (by rw [hb9, hw9]; rfl)) ?_
  refine wpR_nil ?_
  refine wpC_seq ?_
  refine wpC_seq ?_
  refine wpC_cut (fun ρ => ρ 0 = (Sl.v p0) ∧ ρ 2 = (Value.pointer (some (Addr.mk b9 0 none))) ∧ True) ⟨e0, rfl, trivial⟩ ?_
  rintro ρ ⟨e0, e2, -⟩
  refine wpC_region ?_
  refine wpR_val (v := (Sl.v p0)) (w' := w1) rfl rfl rfl (x_move (v := (Sl.v p0)) rfl e0) ?_
  refine wpR_val (v := (Value.int .i64 (p0.len : Int))) (w' := w1) rfl rfl rfl (x_lenS (s := p0) rfl rfl isSliceT_85) ?_
  refine wpR_val (v := (Value.int .i64 0)) (w' := w1) rfl rfl rfl (x_move (v := (Value.int .i64 0)) rfl rfl) ?_
  refine wpR_nil ?_
  refine wpC_block ?_
  obtain ⟨I10, μ10, hI10, hr10⟩ := h
  refine wpC_loop (fun (x : Int) ρ => ρ 7 = (Value.int .i64 x) ∧ ρ 2 = (Value.pointer (some (Addr.mk b9 0 none))) ∧ ρ 5 = (Sl.v p0) ∧ ρ 6 = (Value.int .i64 (p0.len : Int)) ∧ True) I10 μ10 0 ⟨rfl, e2, rfl, rfl, trivial⟩ hI10 ?_
  rintro l10 ρ w2 ⟨e7, e2, e5, e6, -⟩ h
  replace h := hr10 l10 w2 h
  clear hr10 hI10
  refine wpC_seq ?_
  refine wpC_region ?_
  refine wpR_val (v := (Value.bool (decide (l10 < (p0.len : Int))))) (w' := w2) rfl rfl rfl (x_lss rfl e7 e6) ?_
  refine wpR_nil ?_
  refine wpC_seq ?_
  refine wpC_cond (b := decide (l10 < (p0.len : Int))) rfl (fun hc11 => ?_) (fun hc11 => ?_)
  · replace h := h.1 hc11
    refine wpC_skip ?_
    refine wpC_seq ?_
    refine wpC_block ?_
    refine wpC_seq ?_
    refine wpC_cut (fun ρ => ρ 2 = (Value.pointer (some (Addr.mk b9 0 none))) ∧ ρ 5 = (Sl.v p0) ∧ ρ 6 = (Value.int .i64 (p0.len : Int)) ∧ ρ 7 = (Value.int .i64 l10) ∧ True) ⟨e2, e5, e6, e7, trivial⟩ ?_
    rintro ρ ⟨e2, e5, e6, e7, -⟩
    refine wpC_region ?_
    obtain ⟨q12, z12, r12, h⟩ := h
    generalize hp12 : z12.add ((l10 : Int).toNat * 3) = p12 at h
    refine wpR_val (v := (Value.pointer (some p12))) (w' := w2) rfl rfl rfl ((x_indexAddr (s := p0) rfl e5 e7 ES_85 q12 r12).trans (by rw [hp12])) ?_
    obtain ⟨x13, q13, x14, q14, x15, q15, h⟩ := h
    refine wpR_val (v := (Value.agg #[(Value.bool x13), (Value.int .i64 x14), (Value.int .i64 x15)])) (w' := w2) rfl rfl rfl (x_loadN [(Value.bool x13), (Value.int .i64 x14), (Value.int .i64 x15)] rfl rfl SH_72 (CellsAt.out (CellsAt.cons q13 (CellsAt.cons q14 (CellsAt.cons q15 CellsAt.nil))))) ?_
    obtain ⟨b16, hb16⟩ : ∃ u, u = w2.heap.size := ⟨_, rfl⟩
    obtain ⟨w3, hw16⟩ : ∃ u, u = w2.alloc (.cells #[(Value.bool false), (Value.int .i64 0), (Value.int .i64 0)] 72) := ⟨_, rfl⟩
    replace h := h b16 w3 hb16 hw16
    refine wpR_val (v := (Value.pointer (some (Addr.mk b16 0 none)))) (w' := w3) rfl rfl rfl ((x_alloc rfl ZV_72).trans (by rw [hb16, hw16]; rfl)) ?_
    obtain ⟨q17, h⟩ := h
    obtain ⟨w4, hw17⟩ : ∃ u, u = setAll w3 (Addr.mk b16 0 none) [(Value.bool x13), (Value.int .i64 x14), (Value.int .i64 x15)] 0 := ⟨_, rfl⟩
    replace h := h w4 hw17
    refine wpR_skp (w' := w4) rfl rfl ((x_store (v := (Value.agg #[(Value.bool x13), (Value.int .i64 x14), (Value.int .i64 x15)])) rfl rfl rfl SZ_72 (ones (by rfl)) q17).trans (by rw [hw17]; rfl)) ?_
    refine wpR_nil ?_
    refine wpC_seq ?_
    refine wpC_cut (fun ρ => ρ 2 = (Value.pointer (some (Addr.mk b9 0 none))) ∧ ρ 4 = (Value.pointer (some (Addr.mk b16 0 none))) ∧ ρ 5 = (Sl.v p0) ∧ ρ 6 = (Value.int .i64 (p0.len : Int)) ∧ ρ 7 = (Value.int .i64 l10) ∧ True) ⟨e2, rfl, e5, e6, e7, trivial⟩ ?_
    rintro ρ ⟨e2, e4, e5, e6, e7, -⟩
    refine wpC_region ?_
    refine wpR_val (v := (Value.pointer (some ((Addr.mk b16 0 none).add 0)))) (w' := w4) rfl rfl rfl (x_fieldAddr rfl e4 FA_72_0) ?_
    obtain ⟨x18, q18, h⟩ := h
    refine wpR_val (v := (Value.bool x18)) (w' := w4) rfl rfl rfl (x_load1 rfl rfl SH_4 q18) ?_
    refine wpR_nil ?_
    refine wpC_cond (b := x18) rfl (fun hc19 => ?_) (fun hc19 => ?_)
    · replace h := h.1 hc19
      refine wpC_seq ?_
      refine wpC_cut (fun ρ => ρ 2 = (Value.pointer (some (Addr.mk b9 0 none))) ∧ ρ 4 = (Value.pointer (some (Addr.mk b16 0 none))) ∧ True) ⟨e2, e4, trivial⟩ ?_
      rintro ρ ⟨e2, e4, -⟩
      refine wpC_region ?_
      refine wpR_val (v := (Value.pointer (some ((Addr.mk b16 0 none).add 1)))) (w' := w4) rfl rfl rfl (x_fieldAddr rfl e4 FA_72_1) ?_
      obtain ⟨x20, q20, x21, q21, h⟩ := h
      refine wpR_val (v := (Value.agg #[(Value.int .i64 x20), (Value.int .i64 x21)])) (w' := w4) rfl rfl rfl (x_loadN [(Value.int .i64 x20), (Value.int .i64 x21)] rfl rfl SH_46 (CellsAt.out (CellsAt.cons q20 (CellsAt.cons q21 CellsAt.nil)))) ?_
      obtain ⟨q22, h⟩ := h
      obtain ⟨w5, hw22⟩ : ∃ u, u = setAll w4 (Addr.mk b9 0 none) [(Value.int .i64 x20), (Value.int .i64 x21)] 0 := ⟨_, rfl⟩
      replace h := h w5 hw22
      refine wpR_skp (w' := w5) rfl rfl ((x_store (v := (Value.agg #[(Value.int .i64 x20), (Value.int .i64 x21)])) rfl e2 rfl SZ_46 (ones (by rfl)) q22).trans (by rw [hw22]; rfl)) ?_
      refine wpR_nil ?_
      refine wpC_ret ?_
      obtain ⟨x23, q23, x24, q24, h⟩ := h
      exact ⟨.inl rfl, fun a ha => ⟨_, results_repC [(Value.int .i64 x23), (Value.int .i64 x24)] rfl ha e2 SH_46 (CellsAt.out (CellsAt.cons q23 (CellsAt.cons q24 CellsAt.nil))), (x23, x24), rfl, h⟩⟩
    · replace h := h.2 hc19
      refine wpC_skip ?_
      refine wpC_cut (fun ρ => ρ 2 = (Value.pointer (some (Addr.mk b9 0 none))) ∧ ρ 5 = (Sl.v p0) ∧ ρ 6 = (Value.int .i64 (p0.len : Int)) ∧ ρ 7 = (Value.int .i64 l10) ∧ True) ⟨e2, e5, e6, e7, trivial⟩ ?_
      rintro ρ ⟨e2, e5, e6, e7, -⟩
      refine wpC_region ?_
      refine wpR_val (v := (Value.int .i64 (IntKind.i64.wrap (l10 + 1)))) (w' := w4) rfl rfl rfl (x_add rfl e7 rfl) ?_
      refine wpR_val (v := (Value.int .i64 (IntKind.i64.wrap (l10 + 1)))) (w' := w4) rfl rfl rfl (x_move (v := (Value.int .i64 (IntKind.i64.wrap (l10 + 1)))) rfl rfl) ?_
      refine wpR_nil ?_
      exact ⟨IntKind.i64.wrap (l10 + 1), ⟨rfl, e2, e5, e6, trivial⟩, h⟩
  · replace h := h.2 hc11
    refine wpC_exit ?_
    refine wpC_seq ?_
    refine wpC_cut (fun ρ => ρ 2 = (Value.pointer (some (Addr.mk b9 0 none))) ∧ True) ⟨e2, trivial⟩ ?_
    rintro ρ ⟨e2, -⟩
    refine wpC_region ?_
    refine wpR_val (v := (Value.agg #[(Value.int .i64 5), (Value.int .i64 2)])) (w' := w2) rfl rfl rfl (x_build (qs := [(0, (Value.int .i64 5)), (1, (Value.int .i64 2))]) rfl (by rfl) (BD_46_0_1 5 2 _)) ?_
    obtain ⟨q25, h⟩ := h
    obtain ⟨w6, hw25⟩ : ∃ u, u = setAll w2 (Addr.mk b9 0 none) [(Value.int .i64 5), (Value.int .i64 2)] 0 := ⟨_, rfl⟩
    replace h := h w6 hw25
    refine wpR_skp (w' := w6) rfl rfl ((x_store (v := (Value.agg #[(Value.int .i64 5), (Value.int .i64 2)])) rfl e2 rfl SZ_46 (ones (by rfl)) q25).trans (by rw [hw25]; rfl)) ?_
    refine wpR_nil ?_
    refine wpC_ret ?_
    obtain ⟨x26, q26, x27, q27, h⟩ := h
    exact ⟨.inl rfl, fun a ha => ⟨_, results_repC [(Value.int .i64 x26), (Value.int .i64 x27)] rfl ha e2 SH_46 (CellsAt.out (CellsAt.cons q26 (CellsAt.cons q27 CellsAt.nil))), (x26, x27), rfl, h⟩⟩

/-- profile.AtMost$1 -/
def F46 (p0 : ByteArray) (c1 : Addr) (w0 : World) (K : Bool → World → Prop) : Prop :=
  ld Sl.v (c1.add 12) w0 fun x9 =>
  callC Try.prog 42 #[(Sl.v x9), (Value.string p0)] (fun (r : Bool) => (Value.bool r)) w0 fun r10 w1 =>
  K (!r10) w1
set_option maxRecDepth 100000 in
theorem D46 (p0 : ByteArray) (c1 : Addr) (w0 : World) (K : Bool → World → Prop) (h : F46 p0 c1 w0 K) : callC Try.prog 46 #[(Value.string p0), (Value.pointer (some c1))] (fun (r : Bool) => (Value.bool r)) w0 K := by
  unfold F46 at h
  refine calls_of_wpC Try.func46 rfl 9 rfl (by simp) ?_
  intro ρ hρ
  have e0 : ρ 0 = (Value.string p0) := hρ 0
  have e1 : ρ 1 = (Value.pointer (some c1)) := hρ 1
  clear hρ
  refine wpC_seq ?_
  refine wpC_region ?_
  refine wpR_val (v := (Value.bool false)) (w' := w0) rfl rfl rfl (x_assign (v := (Value.bool false)) rfl rfl) ?_
  refine wpR_nil ?_
  refine wpC_seq ?_
  refine wpC_cut (fun ρ => ρ 0 = (Value.string p0) ∧ ρ 1 = (Value.pointer (some c1)) ∧ True) ⟨e0, e1, trivial⟩ ?_
  rintro ρ ⟨e0, e1, -⟩
  refine wpC_region ?_
  refine wpR_val (v := (Value.pointer (some (c1.add 12)))) (w' := w0) rfl rfl rfl (x_fieldAddr rfl e1 FA_24_12) ?_
  obtain ⟨x9, q9, h⟩ := h
  refine wpR_val (v := (Sl.v x9)) (w' := w0) rfl rfl rfl (x_load1 rfl rfl SH_22 q9) ?_
  refine wpR_val (v := (Value.string p0)) (w' := w0) rfl rfl rfl (x_move (v := (Value.string p0)) rfl e0) ?_
  refine wpR_enter rfl rfl rfl (x_call (vs := [(Sl.v x9), (Value.string p0)]) rfl rfl (mapl_cons rfl (mapl_cons rfl mapl_nil)) Try.func42 NN_42 NB_42) (Calls.mono h ?_)
  rintro _ w1 ⟨r10, rfl, h⟩
  refine ⟨_, rfl, ?_⟩
  refine wpR_val (v := (Value.bool (!r10))) (w' := w1) rfl rfl rfl (x_not rfl rfl) ?_
  refine wpR_val (v := (Value.bool (!r10))) (w' := w1) rfl rfl rfl (x_assign (v := (Value.bool (!r10))) rfl rfl) ?_
  refine wpR_nil ?_
  refine wpC_ret ?_
  exact ⟨.inl rfl, fun a ha => ⟨_, results_rep1 rfl ha rfl, !r10, rfl, h⟩⟩

/-- slices.ContainsFunc[[]string,string] -/
def F47 (p0 : Sl) (p1 : Value) (w0 : World) (K : Bool → World → Prop) : Prop :=
  callC Try.prog 56 #[(Sl.v p0), p1] (fun (r : Int) => (Value.int .i64 r)) w0 fun r9 w1 =>
  K (decide (0 ≤ r9)) w1
set_option maxRecDepth 100000 in
theorem D47 (p0 : Sl) (p1 : Value) (w0 : World) (K : Bool → World → Prop) (h : F47 p0 p1 w0 K) : callC Try.prog 47 #[(Sl.v p0), p1] (fun (r : Bool) => (Value.bool r)) w0 K := by
  unfold F47 at h
  refine calls_of_wpC Try.func47 rfl 9 rfl (by simp) ?_
  intro ρ hρ
  have e0 : ρ 0 = (Sl.v p0) := hρ 0
  have e1 : ρ 1 = p1 := hρ 1
  clear hρ
  refine wpC_seq ?_
  refine wpC_region ?_
  refine wpR_val (v := (Value.bool false)) (w' := w0) rfl rfl rfl (x_assign (v := (Value.bool false)) rfl rfl) ?_
  refine wpR_nil ?_
  refine wpC_seq ?_
  refine wpC_cut (fun ρ => ρ 0 = (Sl.v p0) ∧ ρ 1 = p1 ∧ True) ⟨e0, e1, trivial⟩ ?_
  rintro ρ ⟨e0, e1, -⟩
  refine wpC_region ?_
  refine wpR_val (v := (Sl.v p0)) (w' := w0) rfl rfl rfl (x_move (v := (Sl.v p0)) rfl e0) ?_
  refine wpR_val (v := p1) (w' := w0) rfl rfl rfl (x_move (v := p1) rfl e1) ?_
  refine wpR_enter rfl rfl rfl (x_call (vs := [(Sl.v p0), p1]) rfl rfl (mapl_cons rfl (mapl_cons rfl mapl_nil)) Try.func56 NN_56 NB_56) (Calls.mono h ?_)
  rintro _ w1 ⟨r9, rfl, h⟩
  refine ⟨_, rfl, ?_⟩
  refine wpR_val (v := (Value.bool (decide (0 ≤ r9)))) (w' := w1) rfl rfl rfl (x_geq rfl rfl rfl) ?_
  refine wpR_val (v := (Value.bool (decide (0 ≤ r9)))) (w' := w1) rfl rfl rfl (x_assign (v := (Value.bool (decide (0 ≤ r9)))) rfl rfl) ?_
  refine wpR_nil ?_
  refine wpC_ret ?_
  exact ⟨.inl rfl, fun a ha => ⟨_, results_rep1 rfl ha rfl, decide (0 ≤ r9), rfl, h⟩⟩

/-- loss.right$1 -/
def F48 (p0_0 : Int) (p0_1 : Int) (w0 : World) (K : Bool → World → Prop) : Prop :=
  nw 46 #[(Value.int .i64 p0_0), (Value.int .i64 p0_1)] w0 fun b9 w1 =>
  ld (Value.int .i64) ((Addr.mk b9 0 none).add 0) w1 fun x10 =>
  jp (fun J11 => cnd (decide (x10 < 0))
    (
    J11 true
    )
    (
    ld (Value.int .i64) ((Addr.mk b9 0 none).add 0) w1 fun x13 =>
    J11 (decide (6 ≤ x13))
    ))
  fun c14 =>
  jp (fun J15 => cnd (c14)
    (
    J15 true
    )
    (
    ld (Value.int .i64) ((Addr.mk b9 0 none).add 1) w1 fun x17 =>
    J15 (decide (x17 < 0))
    ))
  fun c18 =>
  jp (fun J19 => cnd (c18)
    (
    J19 true
    )
    (
    ld (Value.int .i64) ((Addr.mk b9 0 none).add 1) w1 fun x21 =>
    J19 (decide (3 ≤ x21))
    ))
  fun c22 =>
  K c22 w1
set_option maxRecDepth 100000 in
theorem D48 (p0_0 : Int) (p0_1 : Int) (w0 : World) (K : Bool → World → Prop) (h : F48 p0_0 p0_1 w0 K) : callC Try.prog 48 #[(Value.agg #[(Value.int .i64 p0_0), (Value.int .i64 p0_1)])] (fun (r : Bool) => (Value.bool r)) w0 K := by
  unfold F48 at h
  refine calls_of_wpC Try.func48 rfl 21 rfl (by simp) ?_
  intro ρ hρ
  have e0 : ρ 0 = (Value.agg #[(Value.int .i64 p0_0), (Value.int .i64 p0_1)]) := hρ 0
  clear hρ
  refine wpC_seq ?_
  refine wpC_region ?_
  obtain ⟨b9, hb9⟩ : ∃ u, u = w0.heap.size := ⟨_, rfl⟩
  obtain ⟨w1, hw9⟩ : ∃ u, u = w0.alloc (.cells #[(Value.int .i64 p0_0), (Value.int .i64 p0_1)] 46) := ⟨_, rfl⟩
  replace h := h b9 w1 hb9 hw9
  refine wpR_val (v := (Value.pointer (some (Addr.mk b9 0 none)))) (w' := w1) rfl rfl rfl ((x_box (v := (Value.agg #[(Value.int .i64 p0_0), (Value.int .i64 p0_1)])) rfl e0).trans (by rw [hb9, hw9]; rfl)) ?_
  refine wpR_val (v := (Value.bool false)) (w' := w1) rfl rfl rfl (x_assign (v := (Value.bool false)) rfl rfl) ?_
  refine wpR_nil ?_
  refine wpC_seq ?_
  refine wpC_cut (fun ρ => ρ 1 = (Value.pointer (some (Addr.mk b9 0 none))) ∧ True) ⟨rfl, trivial⟩ ?_
  rintro ρ ⟨e1, -⟩
  refine wpC_region ?_
  refine wpR_val (v := (Value.pointer (some ((Addr.mk b9 0 none).add 0)))) (w' := w1) rfl rfl rfl (x_fieldAddr rfl e1 FA_46_0) ?_
  obtain ⟨x10, q10, h⟩ := h
  refine wpR_val (v := (Value.int .i64 x10)) (w' := w1) rfl rfl rfl (x_load1 rfl rfl SH_3 q10) ?_
  refine wpR_val (v := (Value.bool (decide (x10 < 0)))) (w' := w1) rfl rfl rfl (x_lss rfl rfl rfl) ?_
  refine wpR_val (v := (Value.bool (decide (x10 < 0)))) (w' := w1) rfl rfl rfl (x_move (v := (Value.bool (decide (x10 < 0)))) rfl rfl) ?_
  obtain ⟨J11, h, hk⟩ := h
  refine wpR_joinJ 4 (fun x ρ => ρ 10 = Value.bool x ∧ ρ 1 = (Value.pointer (some (Addr.mk b9 0 none))) ∧ True) (fun x w => J11 x ∧ w1 = w) ?_ ?_
  · clear hk
    rcases Bool.eq_false_or_eq_true (decide (x10 < 0)) with hc12 | hc12
    · replace h := h.1 hc12
      refine wpR_pass (wantN rfl rfl rfl hc12) rfl rfl ?_
      refine wpR_pass (wantN rfl rfl rfl hc12) rfl rfl ?_
      refine wpR_pass (wantN rfl rfl rfl hc12) rfl rfl ?_
      refine wpR_val (v := (Value.bool true)) (w' := w1) rfl rfl rfl (x_pickT (v := (Value.bool true)) rfl rfl hc12 rfl) ?_
      refine wpR_nil ?_
      exact ⟨true, ⟨rfl, e1, trivial⟩, h, rfl⟩
    · replace h := h.2 hc12
      refine wpR_val (v := (Value.pointer (some ((Addr.mk b9 0 none).add 0)))) (w' := w1) (wantG rfl rfl rfl hc12) rfl rfl (x_fieldAddr rfl e1 FA_46_0) ?_
      obtain ⟨x13, q13, h⟩ := h
      refine wpR_val (v := (Value.int .i64 x13)) (w' := w1) (wantG rfl rfl rfl hc12) rfl rfl (x_load1 rfl rfl SH_3 q13) ?_
      refine wpR_val (v := (Value.bool (decide (6 ≤ x13)))) (w' := w1) (wantG rfl rfl rfl hc12) rfl rfl (x_geq rfl rfl rfl) ?_
      refine wpR_val (v := (Value.bool (decide (6 ≤ x13)))) (w' := w1) rfl rfl rfl (x_pickF (v := (Value.bool (decide (6 ≤ x13)))) rfl rfl hc12 rfl) ?_
      refine wpR_nil ?_
      exact ⟨decide (6 ≤ x13), ⟨rfl, e1, trivial⟩, h, rfl⟩
  clear h
  rintro c14 ρ wj ⟨e10, e1, -⟩ ⟨h, rfl⟩
  replace h := hk c14 h
  clear hk
  refine wpR_val (v := (Value.bool c14)) (w' := w1) rfl rfl rfl (x_move (v := (Value.bool c14)) rfl e10) ?_
  obtain ⟨J15, h, hk⟩ := h
  refine wpR_joinJ 4 (fun x ρ => ρ 15 = Value.bool x ∧ ρ 1 = (Value.pointer (some (Addr.mk b9 0 none))) ∧ True) (fun x w => J15 x ∧ w1 = w) ?_ ?_
  · clear hk
    rcases Bool.eq_false_or_eq_true (c14) with hc16 | hc16
    · replace h := h.1 hc16
      refine wpR_pass (wantN rfl rfl rfl hc16) rfl rfl ?_
      refine wpR_pass (wantN rfl rfl rfl hc16) rfl rfl ?_
      refine wpR_pass (wantN rfl rfl rfl hc16) rfl rfl ?_
      refine wpR_val (v := (Value.bool true)) (w' := w1) rfl rfl rfl (x_pickT (v := (Value.bool true)) rfl rfl hc16 rfl) ?_
      refine wpR_nil ?_
      exact ⟨true, ⟨rfl, e1, trivial⟩, h, rfl⟩
    · replace h := h.2 hc16
      refine wpR_val (v := (Value.pointer (some ((Addr.mk b9 0 none).add 1)))) (w' := w1) (wantG rfl rfl rfl hc16) rfl rfl (x_fieldAddr rfl e1 FA_46_1) ?_
      obtain ⟨x17, q17, h⟩ := h
      refine wpR_val (v := (Value.int .i64 x17)) (w' := w1) (wantG rfl rfl rfl hc16) rfl rfl (x_load1 rfl rfl SH_3 q17) ?_
      refine wpR_val (v := (Value.bool (decide (x17 < 0)))) (w' := w1) (wantG rfl rfl rfl hc16) rfl rfl (x_lss rfl rfl rfl) ?_
      refine wpR_val (v := (Value.bool (decide (x17 < 0)))) (w' := w1) rfl rfl rfl (x_pickF (v := (Value.bool (decide (x17 < 0)))) rfl rfl hc16 rfl) ?_
      refine wpR_nil ?_
      exact ⟨decide (x17 < 0), ⟨rfl, e1, trivial⟩, h, rfl⟩
  clear h
  rintro c18 ρ wj ⟨e15, e1, -⟩ ⟨h, rfl⟩
  replace h := hk c18 h
  clear hk
  refine wpR_val (v := (Value.bool c18)) (w' := w1) rfl rfl rfl (x_move (v := (Value.bool c18)) rfl e15) ?_
  obtain ⟨J19, h, hk⟩ := h
  refine wpR_joinJ 4 (fun x ρ => ρ 20 = Value.bool x ∧ True) (fun x w => J19 x ∧ w1 = w) ?_ ?_
  · clear hk
    rcases Bool.eq_false_or_eq_true (c18) with hc20 | hc20
    · replace h := h.1 hc20
      refine wpR_pass (wantN rfl rfl rfl hc20) rfl rfl ?_
      refine wpR_pass (wantN rfl rfl rfl hc20) rfl rfl ?_
      refine wpR_pass (wantN rfl rfl rfl hc20) rfl rfl ?_
      refine wpR_val (v := (Value.bool true)) (w' := w1) rfl rfl rfl (x_pickT (v := (Value.bool true)) rfl rfl hc20 rfl) ?_
      refine wpR_nil ?_
      exact ⟨true, ⟨rfl, trivial⟩, h, rfl⟩
    · replace h := h.2 hc20
      refine wpR_val (v := (Value.pointer (some ((Addr.mk b9 0 none).add 1)))) (w' := w1) (wantG rfl rfl rfl hc20) rfl rfl (x_fieldAddr rfl e1 FA_46_1) ?_
      obtain ⟨x21, q21, h⟩ := h
      refine wpR_val (v := (Value.int .i64 x21)) (w' := w1) (wantG rfl rfl rfl hc20) rfl rfl (x_load1 rfl rfl SH_3 q21) ?_
      refine wpR_val (v := (Value.bool (decide (3 ≤ x21)))) (w' := w1) (wantG rfl rfl rfl hc20) rfl rfl (x_geq rfl rfl rfl) ?_
      refine wpR_val (v := (Value.bool (decide (3 ≤ x21)))) (w' := w1) rfl rfl rfl (x_pickF (v := (Value.bool (decide (3 ≤ x21)))) rfl rfl hc20 rfl) ?_
      refine wpR_nil ?_
      exact ⟨decide (3 ≤ x21), ⟨rfl, trivial⟩, h, rfl⟩
  clear h
  rintro c22 ρ wj ⟨e20, -⟩ ⟨h, rfl⟩
  replace h := hk c22 h
  clear hk
  refine wpR_val (v := (Value.bool c22)) (w' := w1) rfl rfl rfl (x_assign (v := (Value.bool c22)) rfl e20) ?_
  refine wpR_nil ?_
  refine wpC_ret ?_
  exact ⟨.inl rfl, fun a ha => ⟨_, results_rep1 rfl ha rfl, c22, rfl, h⟩⟩

/-- slices.ContainsFunc[[]api.Way,api.Way] -/
def F49 (p0 : Sl) (p1 : Value) (w0 : World) (K : Bool → World → Prop) : Prop :=
  callC Try.prog 57 #[(Sl.v p0), p1] (fun (r : Int) => (Value.int .i64 r)) w0 fun r9 w1 =>
  K (decide (0 ≤ r9)) w1
set_option maxRecDepth 100000 in
theorem D49 (p0 : Sl) (p1 : Value) (w0 : World) (K : Bool → World → Prop) (h : F49 p0 p1 w0 K) : callC Try.prog 49 #[(Sl.v p0), p1] (fun (r : Bool) => (Value.bool r)) w0 K := by
  unfold F49 at h
  refine calls_of_wpC Try.func49 rfl 9 rfl (by simp) ?_
  intro ρ hρ
  have e0 : ρ 0 = (Sl.v p0) := hρ 0
  have e1 : ρ 1 = p1 := hρ 1
  clear hρ
  refine wpC_seq ?_
  refine wpC_region ?_
  refine wpR_val (v := (Value.bool false)) (w' := w0) rfl rfl rfl (x_assign (v := (Value.bool false)) rfl rfl) ?_
  refine wpR_nil ?_
  refine wpC_seq ?_
  refine wpC_cut (fun ρ => ρ 0 = (Sl.v p0) ∧ ρ 1 = p1 ∧ True) ⟨e0, e1, trivial⟩ ?_
  rintro ρ ⟨e0, e1, -⟩
  refine wpC_region ?_
  refine wpR_val (v := (Sl.v p0)) (w' := w0) rfl rfl rfl (x_move (v := (Sl.v p0)) rfl e0) ?_
  refine wpR_val (v := p1) (w' := w0) rfl rfl rfl (x_move (v := p1) rfl e1) ?_
  refine wpR_enter rfl rfl rfl (x_call (vs := [(Sl.v p0), p1]) rfl rfl (mapl_cons rfl (mapl_cons rfl mapl_nil)) Try.func57 NN_57 NB_57) (Calls.mono h ?_)
  rintro _ w1 ⟨r9, rfl, h⟩
  refine ⟨_, rfl, ?_⟩
  refine wpR_val (v := (Value.bool (decide (0 ≤ r9)))) (w' := w1) rfl rfl rfl (x_geq rfl rfl rfl) ?_
  refine wpR_val (v := (Value.bool (decide (0 ≤ r9)))) (w' := w1) rfl rfl rfl (x_assign (v := (Value.bool (decide (0 ≤ r9)))) rfl rfl) ?_
  refine wpR_nil ?_
  refine wpC_ret ?_
  exact ⟨.inl rfl, fun a ha => ⟨_, results_rep1 rfl ha rfl, decide (0 ≤ r9), rfl, h⟩⟩

/-- linguaref12.Right -/
def F50 (p0_0 : ByteArray) (p0_1 : Int) (p0_2 : Int) (p0_3 : Int) (p0_4 : Bool) (p0_5 : Int) (p0_6 : Bool) (p0_7 : Bool) (p0_8 : Int) (p0_9 : Int) (p0_10 : Int) (p0_11 : Int) (p0_12 : Sl) (p0_13 : Int) (p0_14 : Int) (p0_15 : Int) (p0_16 : Int) (p0_17 : Bool) (p0_18 : Int) (p0_19 : Int) (p0_20 : Int) (p0_21 : Int) (w0 : World) (K : Bool → World → Prop) : Prop :=
  nw 24 (A23 p0_0 p0_1 p0_2 p0_3 p0_4 p0_5 p0_6 p0_7 p0_8 p0_9 p0_10 p0_11 p0_12 p0_13 p0_14 p0_15 p0_16 p0_17 p0_18 p0_19 p0_20 p0_21) w0 fun b9 w1 =>
  ld (Value.int .i64) ((Addr.mk b9 0 none).add 1) w1 fun x10 =>
  jp (fun J11 => cnd (decide (x10 = 0))
    (
    J11 true
    )
    (
    ld (Value.int .i64) ((Addr.mk b9 0 none).add 1) w1 fun x13 =>
    J11 (decide (x13 = 2))
    ))
  fun c14 =>
  jn (fun J15 => cnd (c14)
    (
    ld (Value.int .i64) ((Addr.mk b9 0 none).add 3) w1 fun x17 =>
    callC Try.prog 58 #[(Value.int .i64 x17), (Value.int .i64 0), (Value.int .i64 2)] (fun (r : Bool) => (Value.bool r)) w1 fun r18 w2 =>
    J15 r18 w2
    )
    (
    J15 false w1
    ))
  fun c19 w3 =>
  jn (fun J20 => cnd (c19)
    (
    ld (Value.int .i64) ((Addr.mk b9 0 none).add 5) w3 fun x22 =>
    callC Try.prog 58 #[(Value.int .i64 x22), (Value.int .i64 0), (Value.int .i64 2)] (fun (r : Bool) => (Value.bool r)) w3 fun r23 w4 =>
    J20 r23 w4
    )
    (
    J20 false w3
    ))
  fun c24 w5 =>
  jn (fun J25 => cnd (c24)
    (
    ld (Value.int .i64) ((Addr.mk b9 0 none).add 13) w5 fun x27 =>
    callC Try.prog 58 #[(Value.int .i64 x27), (Value.int .i64 0), (Value.int .i64 2)] (fun (r : Bool) => (Value.bool r)) w5 fun r28 w6 =>
    J25 r28 w6
    )
    (
    J25 false w5
    ))
  fun c29 w7 =>
  jn (fun J30 => cnd (c29)
    (
    ld (Value.int .i64) ((Addr.mk b9 0 none).add 14) w7 fun x32 =>
    callC Try.prog 58 #[(Value.int .i64 x32), (Value.int .i64 0), (Value.int .i64 1)] (fun (r : Bool) => (Value.bool r)) w7 fun r33 w8 =>
    J30 r33 w8
    )
    (
    J30 false w7
    ))
  fun c34 w9 =>
  jn (fun J35 => cnd (c34)
    (
    ld (Value.int .i64) ((Addr.mk b9 0 none).add 15) w9 fun x37 =>
    callC Try.prog 58 #[(Value.int .i64 x37), (Value.int .i64 0), (Value.int .i64 1)] (fun (r : Bool) => (Value.bool r)) w9 fun r38 w10 =>
    J35 r38 w10
    )
    (
    J35 false w9
    ))
  fun c39 w11 =>
  jn (fun J40 => cnd (c39)
    (
    ld (Value.int .i64) ((Addr.mk b9 0 none).add 16) w11 fun x42 =>
    callC Try.prog 58 #[(Value.int .i64 x42), (Value.int .i64 0), (Value.int .i64 4)] (fun (r : Bool) => (Value.bool r)) w11 fun r43 w12 =>
    J40 r43 w12
    )
    (
    J40 false w11
    ))
  fun c44 w13 =>
  ld (Value.int .i64) ((Addr.mk b9 0 none).add 2) w13 fun x45 =>
  callC Try.prog 58 #[(Value.int .i64 x45), (Value.int .i64 0), (Value.int .i64 1073741824)] (fun (r : Bool) => (Value.bool r)) w13 fun r46 w14 =>
  jn (fun J47 => cnd (r46)
    (
    ld (Value.int .i64) ((Addr.mk b9 0 none).add 8) w14 fun x49 =>
    callC Try.prog 58 #[(Value.int .i64 x49), (Value.int .i64 0), (Value.int .i64 1073741824)] (fun (r : Bool) => (Value.bool r)) w14 fun r50 w15 =>
    J47 r50 w15
    )
    (
    J47 false w14
    ))
  fun c51 w16 =>
  jn (fun J52 => cnd (c51)
    (
    ld (Value.int .i64) ((Addr.mk b9 0 none).add 9) w16 fun x54 =>
    callC Try.prog 58 #[(Value.int .i64 x54), (Value.int .i64 0), (Value.int .i64 1073741824)] (fun (r : Bool) => (Value.bool r)) w16 fun r55 w17 =>
    J52 r55 w17
    )
    (
    J52 false w16
    ))
  fun c56 w18 =>
  jn (fun J57 => cnd (c56)
    (
    ld (Value.int .i64) ((Addr.mk b9 0 none).add 10) w18 fun x59 =>
    callC Try.prog 58 #[(Value.int .i64 x59), (Value.int .i64 0), (Value.int .i64 1073741824)] (fun (r : Bool) => (Value.bool r)) w18 fun r60 w19 =>
    J57 r60 w19
    )
    (
    J57 false w18
    ))
  fun c61 w20 =>
  jn (fun J62 => cnd (c61)
    (
    ld (Value.int .i64) ((Addr.mk b9 0 none).add 11) w20 fun x64 =>
    callC Try.prog 58 #[(Value.int .i64 x64), (Value.int .i64 0), (Value.int .i64 1073741824)] (fun (r : Bool) => (Value.bool r)) w20 fun r65 w21 =>
    J62 r65 w21
    )
    (
    J62 false w20
    ))
  fun c66 w22 =>
  jn (fun J67 => cnd (c66)
    (
    ld (Value.int .i64) ((Addr.mk b9 0 none).add 18) w22 fun x69 =>
    callC Try.prog 58 #[(Value.int .i64 x69), (Value.int .i64 0), (Value.int .i64 1073741824)] (fun (r : Bool) => (Value.bool r)) w22 fun r70 w23 =>
    J67 r70 w23
    )
    (
    J67 false w22
    ))
  fun c71 w24 =>
  jn (fun J72 => cnd (c71)
    (
    ld (Value.int .i64) ((Addr.mk b9 0 none).add 19) w24 fun x74 =>
    callC Try.prog 58 #[(Value.int .i64 x74), (Value.int .i64 0), (Value.int .i64 1073741824)] (fun (r : Bool) => (Value.bool r)) w24 fun r75 w25 =>
    J72 r75 w25
    )
    (
    J72 false w24
    ))
  fun c76 w26 =>
  jn (fun J77 => cnd (c76)
    (
    ld (Value.int .i64) ((Addr.mk b9 0 none).add 20) w26 fun x79 =>
    callC Try.prog 58 #[(Value.int .i64 x79), (Value.int .i64 0), (Value.int .i64 1073741824)] (fun (r : Bool) => (Value.bool r)) w26 fun r80 w27 =>
    J77 r80 w27
    )
    (
    J77 false w26
    ))
  fun c81 w28 =>
  jn (fun J82 => cnd (c81)
    (
    ld (Value.int .i64) ((Addr.mk b9 0 none).add 21) w28 fun x84 =>
    callC Try.prog 58 #[(Value.int .i64 x84), (Value.int .i64 0), (Value.int .i64 1073741824)] (fun (r : Bool) => (Value.bool r)) w28 fun r85 w29 =>
    J82 r85 w29
    )
    (
    J82 false w28
    ))
  fun c86 w30 =>
  jn (fun J89 => cnd ((!c44) || (!c86))
    (
    J89 true w30
    )
    (
    ld Value.string ((Addr.mk b9 0 none).add 0) w30 fun x91 =>
    callC Try.prog 59 #[(Value.string x91)] (fun (r : Bool) => (Value.bool r)) w30 fun r92 w31 =>
    J89 (!r92) w31
    ))
  fun c93 w32 =>
  jp (fun J94 => cnd (c93)
    (
    J94 true
    )
    (
    ld (Value.int .i64) ((Addr.mk b9 0 none).add 1) w32 fun x96 =>
    jp (fun J97 => cnd (decide (x96 = 0))
      (
      ld (Value.int .i64) ((Addr.mk b9 0 none).add 2) w32 fun x99 =>
      J97 (!decide (x99 = 0))
      )
      (
      J97 false
      ))
    fun c100 =>
    J94 c100
    ))
  fun c101 =>
  cnd (c101)
    (
    K false w32
    )
    (
    ld (Value.int .i64) ((Addr.mk b9 0 none).add 10) w32 fun x103 =>
    cnd (decide (x103 = 0))
      (
      ld (Value.int .i64) ((Addr.mk b9 0 none).add 11) w32 fun x105 =>
      jp (fun J106 => cnd (decide (x105 = 0))
        (
        ld Sl.v ((Addr.mk b9 0 none).add 12) w32 fun x108 =>
        J106 (decide ((x108.len : Int) = 0))
        )
        (
        J106 false
        ))
      fun c109 =>
      K c109 w32
      )
      (
      ld Sl.v ((Addr.mk b9 0 none).add 12) w32 fun x110 =>
      jp (fun J111 => cnd (decide ((x110.len : Int) < 1))
        (
        J111 true
        )
        (
        ld Sl.v ((Addr.mk b9 0 none).add 12) w32 fun x113 =>
        J111 (decide (20 < (x113.len : Int)))
        ))
      fun c114 =>
      cnd (c114)
        (
        K false w32
        )
        (
        lp (fun (next116 : Int → World → Prop) l116 w33 =>
          ld Sl.v ((Addr.mk b9 0 none).add 12) w33 fun x117 =>
          cnd (decide (l116 < (x117.len : Int)))
            (
            ld Sl.v ((Addr.mk b9 0 none).add 12) w33 fun x119 =>
            ix x119 l116 1 fun p120 =>
            ld Value.string p120 w33 fun x121 =>
            callC Try.prog 59 #[(Value.string x121)] (fun (r : Bool) => (Value.bool r)) w33 fun r122 w34 =>
            cnd (!r122)
              (
              K false w34
              )
              (
              next116 (IntKind.i64.wrap (l116 + 1)) w34
              )
            )
            (
            K true w33
            )
        ) 0 w32
        )
      )
    )
set_option maxRecDepth 100000 in
theorem D50 (p0_0 : ByteArray) (p0_1 : Int) (p0_2 : Int) (p0_3 : Int) (p0_4 : Bool) (p0_5 : Int) (p0_6 : Bool) (p0_7 : Bool) (p0_8 : Int) (p0_9 : Int) (p0_10 : Int) (p0_11 : Int) (p0_12 : Sl) (p0_13 : Int) (p0_14 : Int) (p0_15 : Int) (p0_16 : Int) (p0_17 : Bool) (p0_18 : Int) (p0_19 : Int) (p0_20 : Int) (p0_21 : Int) (w0 : World) (K : Bool → World → Prop) (h : F50 p0_0 p0_1 p0_2 p0_3 p0_4 p0_5 p0_6 p0_7 p0_8 p0_9 p0_10 p0_11 p0_12 p0_13 p0_14 p0_15 p0_16 p0_17 p0_18 p0_19 p0_20 p0_21 w0 K) : callC Try.prog 50 #[(V23 p0_0 p0_1 p0_2 p0_3 p0_4 p0_5 p0_6 p0_7 p0_8 p0_9 p0_10 p0_11 p0_12 p0_13 p0_14 p0_15 p0_16 p0_17 p0_18 p0_19 p0_20 p0_21)] (fun (r : Bool) => (Value.bool r)) w0 K := by
  unfold F50 at h
  refine calls_of_wpC Try.func50 rfl 145 rfl (by simp) ?_
  intro ρ hρ
  have e0 : ρ 0 = (V23 p0_0 p0_1 p0_2 p0_3 p0_4 p0_5 p0_6 p0_7 p0_8 p0_9 p0_10 p0_11 p0_12 p0_13 p0_14 p0_15 p0_16 p0_17 p0_18 p0_19 p0_20 p0_21) := hρ 0
  clear hρ
  refine wpC_seq ?_
  refine wpC_region ?_
  obtain ⟨b9, hb9⟩ : ∃ u, u = w0.heap.size := ⟨_, rfl⟩
  obtain ⟨w1, hw9⟩ : ∃ u, u = w0.alloc (.cells (A23 p0_0 p0_1 p0_2 p0_3 p0_4 p0_5 p0_6 p0_7 p0_8 p0_9 p0_10 p0_11 p0_12 p0_13 p0_14 p0_15 p0_16 p0_17 p0_18 p0_19 p0_20 p0_21) 24) := ⟨_, rfl⟩
  replace h := h b9 w1 hb9 hw9
  refine wpR_val (v := (Value.pointer (some (Addr.mk b9 0 none)))) (w' := w1) rfl rfl rfl ((x_box (v := (V23 p0_0 p0_1 p0_2 p0_3 p0_4 p0_5 p0_6 p0_7 p0_8 p0_9 p0_10 p0_11 p0_12 p0_13 p0_14 p0_15 p0_16 p0_17 p0_18 p0_19 p0_20 p0_21)) rfl e0).trans (by rw [hb9, hw9]; rfl)) ?_
  refine wpR_val (v := (Value.bool false)) (w' := w1) rfl rfl rfl (x_assign (v := (Value.bool false)) rfl rfl) ?_
  refine wpR_nil ?_
  refine wpC_seq ?_
  refine wpC_cut (fun ρ => ρ 1 = (Value.pointer (some (Addr.mk b9 0 none))) ∧ True) ⟨rfl, trivial⟩ ?_
  rintro ρ ⟨e1, -⟩
  refine wpC_region ?_
  refine wpR_val (v := (Value.pointer (some ((Addr.mk b9 0 none).add 1)))) (w' := w1) rfl rfl rfl (x_fieldAddr rfl e1 FA_24_1) ?_
  obtain ⟨x10, q10, h⟩ := h
  refine wpR_val (v := (Value.int .i64 x10)) (w' := w1) rfl rfl rfl (x_load1 rfl rfl SH_3 q10) ?_
  refine wpR_val (v := (Value.bool (decide (x10 = 0)))) (w' := w1) rfl rfl rfl (x_eql rfl rfl rfl) ?_
  refine wpR_val (v := (Value.bool (decide (x10 = 0)))) (w' := w1) rfl rfl rfl (x_move (v := (Value.bool (decide (x10 = 0)))) rfl rfl) ?_
  obtain ⟨J11, h, hk⟩ := h
  refine wpR_joinJ 4 (fun x ρ => ρ 13 = Value.bool x ∧ ρ 1 = (Value.pointer (some (Addr.mk b9 0 none))) ∧ True) (fun x w => J11 x ∧ w1 = w) ?_ ?_
  · clear hk
    rcases Bool.eq_false_or_eq_true (decide (x10 = 0)) with hc12 | hc12
    · replace h := h.1 hc12
      refine wpR_pass (wantN rfl rfl rfl hc12) rfl rfl ?_
      refine wpR_pass (wantN rfl rfl rfl hc12) rfl rfl ?_
      refine wpR_pass (wantN rfl rfl rfl hc12) rfl rfl ?_
      refine wpR_val (v := (Value.bool true)) (w' := w1) rfl rfl rfl (x_pickT (v := (Value.bool true)) rfl rfl hc12 rfl) ?_
      refine wpR_nil ?_
      exact ⟨true, ⟨rfl, e1, trivial⟩, h, rfl⟩
    · replace h := h.2 hc12
      refine wpR_val (v := (Value.pointer (some ((Addr.mk b9 0 none).add 1)))) (w' := w1) (wantG rfl rfl rfl hc12) rfl rfl (x_fieldAddr rfl e1 FA_24_1) ?_
      obtain ⟨x13, q13, h⟩ := h
      refine wpR_val (v := (Value.int .i64 x13)) (w' := w1) (wantG rfl rfl rfl hc12) rfl rfl (x_load1 rfl rfl SH_3 q13) ?_
      refine wpR_val (v := (Value.bool (decide (x13 = 2)))) (w' := w1) (wantG rfl rfl rfl hc12) rfl rfl (x_eql rfl rfl rfl) ?_
      refine wpR_val (v := (Value.bool (decide (x13 = 2)))) (w' := w1) rfl rfl rfl (x_pickF (v := (Value.bool (decide (x13 = 2)))) rfl rfl hc12 rfl) ?_
      refine wpR_nil ?_
      exact ⟨decide (x13 = 2), ⟨rfl, e1, trivial⟩, h, rfl⟩
  clear h
  rintro c14 ρ wj ⟨e13, e1, -⟩ ⟨h, rfl⟩
  replace h := hk c14 h
  clear hk
  refine wpR_val (v := (Value.bool c14)) (w' := w1) rfl rfl rfl (x_move (v := (Value.bool c14)) rfl e13) ?_
  obtain ⟨J15, h, hk⟩ := h
  refine wpR_joinJ 4 (fun x ρ => ρ 18 = Value.bool x ∧ ρ 1 = (Value.pointer (some (Addr.mk b9 0 none))) ∧ True) (J15) ?_ ?_
  · clear hk
    rcases Bool.eq_false_or_eq_true (c14) with hc16 | hc16
    · replace h := h.1 hc16
      refine wpR_val (v := (Value.pointer (some ((Addr.mk b9 0 none).add 3)))) (w' := w1) (wantG rfl rfl rfl hc16) rfl rfl (x_fieldAddr rfl e1 FA_24_3) ?_
      obtain ⟨x17, q17, h⟩ := h
      refine wpR_val (v := (Value.int .i64 x17)) (w' := w1) (wantG rfl rfl rfl hc16) rfl rfl (x_load1 rfl rfl SH_3 q17) ?_
      refine wpR_enter (wantG rfl rfl rfl hc16) rfl rfl (x_call (vs := [(Value.int .i64 x17), (Value.int .i64 0), (Value.int .i64 2)]) rfl rfl (mapl_cons rfl (mapl_cons rfl (mapl_cons rfl mapl_nil))) Try.func58 NN_58 NB_58) (Calls.mono h ?_)
      rintro _ w2 ⟨r18, rfl, h⟩
      refine ⟨_, rfl, ?_⟩
      refine wpR_val (v := (Value.bool r18)) (w' := w2) rfl rfl rfl (x_pickT (v := (Value.bool r18)) rfl rfl hc16 rfl) ?_
      refine wpR_nil ?_
      exact ⟨r18, ⟨rfl, e1, trivial⟩, h⟩
    · replace h := h.2 hc16
      refine wpR_pass (wantN rfl rfl rfl hc16) rfl rfl ?_
      refine wpR_pass (wantN rfl rfl rfl hc16) rfl rfl ?_
      refine wpR_pass (wantN rfl rfl rfl hc16) rfl rfl ?_
      refine wpR_val (v := (Value.bool false)) (w' := w1) rfl rfl rfl (x_pickF (v := (Value.bool false)) rfl rfl hc16 rfl) ?_
      refine wpR_nil ?_
      exact ⟨false, ⟨rfl, e1, trivial⟩, h⟩
  clear h
  rintro c19 ρ w3 ⟨e18, e1, -⟩ h
  replace h := hk c19 w3 h
  clear hk
  refine wpR_val (v := (Value.bool c19)) (w' := w3) rfl rfl rfl (x_move (v := (Value.bool c19)) rfl e18) ?_
  obtain ⟨J20, h, hk⟩ := h
  refine wpR_joinJ 4 (fun x ρ => ρ 23 = Value.bool x ∧ ρ 1 = (Value.pointer (some (Addr.mk b9 0 none))) ∧ True) (J20) ?_ ?_
  · clear hk
    rcases Bool.eq_false_or_eq_true (c19) with hc21 | hc21
    · replace h := h.1 hc21
      refine wpR_val (v := (Value.pointer (some ((Addr.mk b9 0 none).add 5)))) (w' := w3) (wantG rfl rfl rfl hc21) rfl rfl (x_fieldAddr rfl e1 FA_24_5) ?_
      obtain ⟨x22, q22, h⟩ := h
      refine wpR_val (v := (Value.int .i64 x22)) (w' := w3) (wantG rfl rfl rfl hc21) rfl rfl (x_load1 rfl rfl SH_3 q22) ?_
      refine wpR_enter (wantG rfl rfl rfl hc21) rfl rfl (x_call (vs := [(Value.int .i64 x22), (Value.int .i64 0), (Value.int .i64 2)]) rfl rfl (mapl_cons rfl (mapl_cons rfl (mapl_cons rfl mapl_nil))) Try.func58 NN_58 NB_58) (Calls.mono h ?_)
      rintro _ w4 ⟨r23, rfl, h⟩
      refine ⟨_, rfl, ?_⟩
      refine wpR_val (v := (Value.bool r23)) (w' := w4) rfl rfl rfl (x_pickT (v := (Value.bool r23)) rfl rfl hc21 rfl) ?_
      refine wpR_nil ?_
      exact ⟨r23, ⟨rfl, e1, trivial⟩, h⟩
    · replace h := h.2 hc21
      refine wpR_pass (wantN rfl rfl rfl hc21) rfl rfl ?_
      refine wpR_pass (wantN rfl rfl rfl hc21) rfl rfl ?_
      refine wpR_pass (wantN rfl rfl rfl hc21) rfl rfl ?_
      refine wpR_val (v := (Value.bool false)) (w' := w3) rfl rfl rfl (x_pickF (v := (Value.bool false)) rfl rfl hc21 rfl) ?_
      refine wpR_nil ?_
      exact ⟨false, ⟨rfl, e1, trivial⟩, h⟩
  clear h
  rintro c24 ρ w5 ⟨e23, e1, -⟩ h
  replace h := hk c24 w5 h
  clear hk
  refine wpR_val (v := (Value.bool c24)) (w' := w5) rfl rfl rfl (x_move (v := (Value.bool c24)) rfl e23) ?_
  obtain ⟨J25, h, hk⟩ := h
  refine wpR_joinJ 4 (fun x ρ => ρ 28 = Value.bool x ∧ ρ 1 = (Value.pointer (some (Addr.mk b9 0 none))) ∧ True) (J25) ?_ ?_
  · clear hk
    rcases Bool.eq_false_or_eq_true (c24) with hc26 | hc26
    · replace h := h.1 hc26
      refine wpR_val (v := (Value.pointer (some ((Addr.mk b9 0 none).add 13)))) (w' := w5) (wantG rfl rfl rfl hc26) rfl rfl (x_fieldAddr rfl e1 FA_24_13) ?_
      obtain ⟨x27, q27, h⟩ := h
      refine wpR_val (v := (Value.int .i64 x27)) (w' := w5) (wantG rfl rfl rfl hc26) rfl rfl (x_load1 rfl rfl SH_3 q27) ?_
      refine wpR_enter (wantG rfl rfl rfl hc26) rfl rfl (x_call (vs := [(Value.int .i64 x27), (Value.int .i64 0), (Value.int .i64 2)]) rfl rfl (mapl_cons rfl (mapl_cons rfl (mapl_cons rfl mapl_nil))) Try.func58 NN_58 NB_58) (Calls.mono h ?_)
      rintro _ w6 ⟨r28, rfl, h⟩
      refine ⟨_, rfl, ?_⟩
      refine wpR_val (v := (Value.bool r28)) (w' := w6) rfl rfl rfl (x_pickT (v := (Value.bool r28)) rfl rfl hc26 rfl) ?_
      refine wpR_nil ?_
      exact ⟨r28, ⟨rfl, e1, trivial⟩, h⟩
    · replace h := h.2 hc26
      refine wpR_pass (wantN rfl rfl rfl hc26) rfl rfl ?_
      refine wpR_pass (wantN rfl rfl rfl hc26) rfl rfl ?_
      refine wpR_pass (wantN rfl rfl rfl hc26) rfl rfl ?_
      refine wpR_val (v := (Value.bool false)) (w' := w5) rfl rfl rfl (x_pickF (v := (Value.bool false)) rfl rfl hc26 rfl) ?_
      refine wpR_nil ?_
      exact ⟨false, ⟨rfl, e1, trivial⟩, h⟩
  clear h
  rintro c29 ρ w7 ⟨e28, e1, -⟩ h
  replace h := hk c29 w7 h
  clear hk
  refine wpR_val (v := (Value.bool c29)) (w' := w7) rfl rfl rfl (x_move (v := (Value.bool c29)) rfl e28) ?_
  obtain ⟨J30, h, hk⟩ := h
  refine wpR_joinJ 4 (fun x ρ => ρ 33 = Value.bool x ∧ ρ 1 = (Value.pointer (some (Addr.mk b9 0 none))) ∧ True) (J30) ?_ ?_
  · clear hk
    rcases Bool.eq_false_or_eq_true (c29) with hc31 | hc31
    · replace h := h.1 hc31
      refine wpR_val (v := (Value.pointer (some ((Addr.mk b9 0 none).add 14)))) (w' := w7) (wantG rfl rfl rfl hc31) rfl rfl (x_fieldAddr rfl e1 FA_24_14) ?_
      obtain ⟨x32, q32, h⟩ := h
      refine wpR_val (v := (Value.int .i64 x32)) (w' := w7) (wantG rfl rfl rfl hc31) rfl rfl (x_load1 rfl rfl SH_3 q32) ?_
      refine wpR_enter (wantG rfl rfl rfl hc31) rfl rfl (x_call (vs := [(Value.int .i64 x32), (Value.int .i64 0), (Value.int .i64 1)]) rfl rfl (mapl_cons rfl (mapl_cons rfl (mapl_cons rfl mapl_nil))) Try.func58 NN_58 NB_58) (Calls.mono h ?_)
      rintro _ w8 ⟨r33, rfl, h⟩
      refine ⟨_, rfl, ?_⟩
      refine wpR_val (v := (Value.bool r33)) (w' := w8) rfl rfl rfl (x_pickT (v := (Value.bool r33)) rfl rfl hc31 rfl) ?_
      refine wpR_nil ?_
      exact ⟨r33, ⟨rfl, e1, trivial⟩, h⟩
    · replace h := h.2 hc31
      refine wpR_pass (wantN rfl rfl rfl hc31) rfl rfl ?_
      refine wpR_pass (wantN rfl rfl rfl hc31) rfl rfl ?_
      refine wpR_pass (wantN rfl rfl rfl hc31) rfl rfl ?_
      refine wpR_val (v := (Value.bool false)) (w' := w7) rfl rfl rfl (x_pickF (v := (Value.bool false)) rfl rfl hc31 rfl) ?_
      refine wpR_nil ?_
      exact ⟨false, ⟨rfl, e1, trivial⟩, h⟩
  clear h
  rintro c34 ρ w9 ⟨e33, e1, -⟩ h
  replace h := hk c34 w9 h
  clear hk
  refine wpR_val (v := (Value.bool c34)) (w' := w9) rfl rfl rfl (x_move (v := (Value.bool c34)) rfl e33) ?_
  obtain ⟨J35, h, hk⟩ := h
  refine wpR_joinJ 4 (fun x ρ => ρ 38 = Value.bool x ∧ ρ 1 = (Value.pointer (some (Addr.mk b9 0 none))) ∧ True) (J35) ?_ ?_
  · clear hk
    rcases Bool.eq_false_or_eq_true (c34) with hc36 | hc36
    · replace h := h.1 hc36
      refine wpR_val (v := (Value.pointer (some ((Addr.mk b9 0 none).add 15)))) (w' := w9) (wantG rfl rfl rfl hc36) rfl rfl (x_fieldAddr rfl e1 FA_24_15) ?_
      obtain ⟨x37, q37, h⟩ := h
      refine wpR_val (v := (Value.int .i64 x37)) (w' := w9) (wantG rfl rfl rfl hc36) rfl rfl (x_load1 rfl rfl SH_3 q37) ?_
      refine wpR_enter (wantG rfl rfl rfl hc36) rfl rfl (x_call (vs := [(Value.int .i64 x37), (Value.int .i64 0), (Value.int .i64 1)]) rfl rfl (mapl_cons rfl (mapl_cons rfl (mapl_cons rfl mapl_nil))) Try.func58 NN_58 NB_58) (Calls.mono h ?_)
      rintro _ w10 ⟨r38, rfl, h⟩
      refine ⟨_, rfl, ?_⟩
      refine wpR_val (v := (Value.bool r38)) (w' := w10) rfl rfl rfl (x_pickT (v := (Value.bool r38)) rfl rfl hc36 rfl) ?_
      refine wpR_nil ?_
      exact ⟨r38, ⟨rfl, e1, trivial⟩, h⟩
    · replace h := h.2 hc36
      refine wpR_pass (wantN rfl rfl rfl hc36) rfl rfl ?_
      refine wpR_pass (wantN rfl rfl rfl hc36) rfl rfl ?_
      refine wpR_pass (wantN rfl rfl rfl hc36) rfl rfl ?_
      refine wpR_val (v := (Value.bool false)) (w' := w9) rfl rfl rfl (x_pickF (v := (Value.bool false)) rfl rfl hc36 rfl) ?_
      refine wpR_nil ?_
      exact ⟨false, ⟨rfl, e1, trivial⟩, h⟩
  clear h
  rintro c39 ρ w11 ⟨e38, e1, -⟩ h
  replace h := hk c39 w11 h
  clear hk
  refine wpR_val (v := (Value.bool c39)) (w' := w11) rfl rfl rfl (x_move (v := (Value.bool c39)) rfl e38) ?_
  obtain ⟨J40, h, hk⟩ := h
  refine wpR_joinJ 4 (fun x ρ => ρ 43 = Value.bool x ∧ ρ 1 = (Value.pointer (some (Addr.mk b9 0 none))) ∧ True) (J40) ?_ ?_
  · clear hk
    rcases Bool.eq_false_or_eq_true (c39) with hc41 | hc41
    · replace h := h.1 hc41
      refine wpR_val (v := (Value.pointer (some ((Addr.mk b9 0 none).add 16)))) (w' := w11) (wantG rfl rfl rfl hc41) rfl rfl (x_fieldAddr rfl e1 FA_24_16) ?_
      obtain ⟨x42, q42, h⟩ := h
      refine wpR_val (v := (Value.int .i64 x42)) (w' := w11) (wantG rfl rfl rfl hc41) rfl rfl (x_load1 rfl rfl SH_3 q42) ?_
      refine wpR_enter (wantG rfl rfl rfl hc41) rfl rfl (x_call (vs := [(Value.int .i64 x42), (Value.int .i64 0), (Value.int .i64 4)]) rfl rfl (mapl_cons rfl (mapl_cons rfl (mapl_cons rfl mapl_nil))) Try.func58 NN_58 NB_58) (Calls.mono h ?_)
      rintro _ w12 ⟨r43, rfl, h⟩
      refine ⟨_, rfl, ?_⟩
      refine wpR_val (v := (Value.bool r43)) (w' := w12) rfl rfl rfl (x_pickT (v := (Value.bool r43)) rfl rfl hc41 rfl) ?_
      refine wpR_nil ?_
      exact ⟨r43, ⟨rfl, e1, trivial⟩, h⟩
    · replace h := h.2 hc41
      refine wpR_pass (wantN rfl rfl rfl hc41) rfl rfl ?_
      refine wpR_pass (wantN rfl rfl rfl hc41) rfl rfl ?_
      refine wpR_pass (wantN rfl rfl rfl hc41) rfl rfl ?_
      refine wpR_val (v := (Value.bool false)) (w' := w11) rfl rfl rfl (x_pickF (v := (Value.bool false)) rfl rfl hc41 rfl) ?_
      refine wpR_nil ?_
      exact ⟨false, ⟨rfl, e1, trivial⟩, h⟩
  clear h
  rintro c44 ρ w13 ⟨e43, e1, -⟩ h
  replace h := hk c44 w13 h
  clear hk
  refine wpR_val (v := (Value.bool c44)) (w' := w13) rfl rfl rfl (x_assign (v := (Value.bool c44)) rfl e43) ?_
  refine wpR_nil ?_
  refine wpC_seq ?_
  refine wpC_cut (fun ρ => ρ 1 = (Value.pointer (some (Addr.mk b9 0 none))) ∧ ρ 3 = (Value.bool c44) ∧ True) ⟨e1, rfl, trivial⟩ ?_
  rintro ρ ⟨e1, e3, -⟩
  refine wpC_region ?_
  refine wpR_val (v := (Value.pointer (some ((Addr.mk b9 0 none).add 2)))) (w' := w13) rfl rfl rfl (x_fieldAddr rfl e1 FA_24_2) ?_
  obtain ⟨x45, q45, h⟩ := h
  refine wpR_val (v := (Value.int .i64 x45)) (w' := w13) rfl rfl rfl (x_load1 rfl rfl SH_3 q45) ?_
  refine wpR_enter rfl rfl rfl (x_call (vs := [(Value.int .i64 x45), (Value.int .i64 0), (Value.int .i64 1073741824)]) rfl rfl (mapl_cons rfl (mapl_cons rfl (mapl_cons rfl mapl_nil))) Try.func58 NN_58 NB_58) (Calls.mono h ?_)
  rintro _ w14 ⟨r46, rfl, h⟩
  refine ⟨_, rfl, ?_⟩
  refine wpR_val (v := (Value.bool r46)) (w' := w14) rfl rfl rfl (x_move (v := (Value.bool r46)) rfl rfl) ?_
  obtain ⟨J47, h, hk⟩ := h
  refine wpR_joinJ 4 (fun x ρ => ρ 51 = Value.bool x ∧ ρ 1 = (Value.pointer (some (Addr.mk b9 0 none))) ∧ ρ 3 = (Value.bool c44) ∧ True) (J47) ?_ ?_
  · clear hk
    rcases Bool.eq_false_or_eq_true (r46) with hc48 | hc48
    · replace h := h.1 hc48
      refine wpR_val (v := (Value.pointer (some ((Addr.mk b9 0 none).add 8)))) (w' := w14) (wantG rfl rfl rfl hc48) rfl rfl (x_fieldAddr rfl e1 FA_24_8) ?_
      obtain ⟨x49, q49, h⟩ := h
      refine wpR_val (v := (Value.int .i64 x49)) (w' := w14) (wantG rfl rfl rfl hc48) rfl rfl (x_load1 rfl rfl SH_3 q49) ?_
      refine wpR_enter (wantG rfl rfl rfl hc48) rfl rfl (x_call (vs := [(Value.int .i64 x49), (Value.int .i64 0), (Value.int .i64 1073741824)]) rfl rfl (mapl_cons rfl (mapl_cons rfl (mapl_cons rfl mapl_nil))) Try.func58 NN_58 NB_58) (Calls.mono h ?_)
      rintro _ w15 ⟨r50, rfl, h⟩
      refine ⟨_, rfl, ?_⟩
      refine wpR_val (v := (Value.bool r50)) (w' := w15) rfl rfl rfl (x_pickT (v := (Value.bool r50)) rfl rfl hc48 rfl) ?_
      refine wpR_nil ?_
      exact ⟨r50, ⟨rfl, e1, e3, trivial⟩, h⟩
    · replace h := h.2 hc48
      refine wpR_pass (wantN rfl rfl rfl hc48) rfl rfl ?_
      refine wpR_pass (wantN rfl rfl rfl hc48) rfl rfl ?_
      refine wpR_pass (wantN rfl rfl rfl hc48) rfl rfl ?_
      refine wpR_val (v := (Value.bool false)) (w' := w14) rfl rfl rfl (x_pickF (v := (Value.bool false)) rfl rfl hc48 rfl) ?_
      refine wpR_nil ?_
      exact ⟨false, ⟨rfl, e1, e3, trivial⟩, h⟩
  clear h
  rintro c51 ρ w16 ⟨e51, e1, e3, -⟩ h
  replace h := hk c51 w16 h
  clear hk
  refine wpR_val (v := (Value.bool c51)) (w' := w16) rfl rfl rfl (x_move (v := (Value.bool c51)) rfl e51) ?_
  obtain ⟨J52, h, hk⟩ := h
  refine wpR_joinJ 4 (fun x ρ => ρ 56 = Value.bool x ∧ ρ 1 = (Value.pointer (some (Addr.mk b9 0 none))) ∧ ρ 3 = (Value.bool c44) ∧ True) (J52) ?_ ?_
  · clear hk
    rcases Bool.eq_false_or_eq_true (c51) with hc53 | hc53
    · replace h := h.1 hc53
      refine wpR_val (v := (Value.pointer (some ((Addr.mk b9 0 none).add 9)))) (w' := w16) (wantG rfl rfl rfl hc53) rfl rfl (x_fieldAddr rfl e1 FA_24_9) ?_
      obtain ⟨x54, q54, h⟩ := h
      refine wpR_val (v := (Value.int .i64 x54)) (w' := w16) (wantG rfl rfl rfl hc53) rfl rfl (x_load1 rfl rfl SH_3 q54) ?_
      refine wpR_enter (wantG rfl rfl rfl hc53) rfl rfl (x_call (vs := [(Value.int .i64 x54), (Value.int .i64 0), (Value.int .i64 1073741824)]) rfl rfl (mapl_cons rfl (mapl_cons rfl (mapl_cons rfl mapl_nil))) Try.func58 NN_58 NB_58) (Calls.mono h ?_)
      rintro _ w17 ⟨r55, rfl, h⟩
      refine ⟨_, rfl, ?_⟩
      refine wpR_val (v := (Value.bool r55)) (w' := w17) rfl rfl rfl (x_pickT (v := (Value.bool r55)) rfl rfl hc53 rfl) ?_
      refine wpR_nil ?_
      exact ⟨r55, ⟨rfl, e1, e3, trivial⟩, h⟩
    · replace h := h.2 hc53
      refine wpR_pass (wantN rfl rfl rfl hc53) rfl rfl ?_
      refine wpR_pass (wantN rfl rfl rfl hc53) rfl rfl ?_
      refine wpR_pass (wantN rfl rfl rfl hc53) rfl rfl ?_
      refine wpR_val (v := (Value.bool false)) (w' := w16) rfl rfl rfl (x_pickF (v := (Value.bool false)) rfl rfl hc53 rfl) ?_
      refine wpR_nil ?_
      exact ⟨false, ⟨rfl, e1, e3, trivial⟩, h⟩
  clear h
  rintro c56 ρ w18 ⟨e56, e1, e3, -⟩ h
  replace h := hk c56 w18 h
  clear hk
  refine wpR_val (v := (Value.bool c56)) (w' := w18) rfl rfl rfl (x_move (v := (Value.bool c56)) rfl e56) ?_
  obtain ⟨J57, h, hk⟩ := h
  refine wpR_joinJ 4 (fun x ρ => ρ 61 = Value.bool x ∧ ρ 1 = (Value.pointer (some (Addr.mk b9 0 none))) ∧ ρ 3 = (Value.bool c44) ∧ True) (J57) ?_ ?_
  · clear hk
    rcases Bool.eq_false_or_eq_true (c56) with hc58 | hc58
    · replace h := h.1 hc58
      refine wpR_val (v := (Value.pointer (some ((Addr.mk b9 0 none).add 10)))) (w' := w18) (wantG rfl rfl rfl hc58) rfl rfl (x_fieldAddr rfl e1 FA_24_10) ?_
      obtain ⟨x59, q59, h⟩ := h
      refine wpR_val (v := (Value.int .i64 x59)) (w' := w18) (wantG rfl rfl rfl hc58) rfl rfl (x_load1 rfl rfl SH_3 q59) ?_
      refine wpR_enter (wantG rfl rfl rfl hc58) rfl rfl (x_call (vs := [(Value.int .i64 x59), (Value.int .i64 0), (Value.int .i64 1073741824)]) rfl rfl (mapl_cons rfl (mapl_cons rfl (mapl_cons rfl mapl_nil))) Try.func58 NN_58 NB_58) (Calls.mono h ?_)
      rintro _ w19 ⟨r60, rfl, h⟩
      refine ⟨_, rfl, ?_⟩
      refine wpR_val (v := (Value.bool r60)) (w' := w19) rfl rfl rfl (x_pickT (v := (Value.bool r60)) rfl rfl hc58 rfl) ?_
      refine wpR_nil ?_
      exact ⟨r60, ⟨rfl, e1, e3, trivial⟩, h⟩
    · replace h := h.2 hc58
      refine wpR_pass (wantN rfl rfl rfl hc58) rfl rfl ?_
      refine wpR_pass (wantN rfl rfl rfl hc58) rfl rfl ?_
      refine wpR_pass (wantN rfl rfl rfl hc58) rfl rfl ?_
      refine wpR_val (v := (Value.bool false)) (w' := w18) rfl rfl rfl (x_pickF (v := (Value.bool false)) rfl rfl hc58 rfl) ?_
      refine wpR_nil ?_
      exact ⟨false, ⟨rfl, e1, e3, trivial⟩, h⟩
  clear h
  rintro c61 ρ w20 ⟨e61, e1, e3, -⟩ h
  replace h := hk c61 w20 h
  clear hk
  refine wpR_val (v := (Value.bool c61)) (w' := w20) rfl rfl rfl (x_move (v := (Value.bool c61)) rfl e61) ?_
  obtain ⟨J62, h, hk⟩ := h
  refine wpR_joinJ 4 (fun x ρ => ρ 66 = Value.bool x ∧ ρ 1 = (Value.pointer (some (Addr.mk b9 0 none))) ∧ ρ 3 = (Value.bool c44) ∧ True) (J62) ?_ ?_
  · clear hk
    rcases Bool.eq_false_or_eq_true (c61) with hc63 | hc63
    · replace h := h.1 hc63
      refine wpR_val (v := (Value.pointer (some ((Addr.mk b9 0 none).add 11)))) (w' := w20) (wantG rfl rfl rfl hc63) rfl rfl (x_fieldAddr rfl e1 FA_24_11) ?_
      obtain ⟨x64, q64, h⟩ := h
      refine wpR_val (v := (Value.int .i64 x64)) (w' := w20) (wantG rfl rfl rfl hc63) rfl rfl (x_load1 rfl rfl SH_3 q64) ?_
      refine wpR_enter (wantG rfl rfl rfl hc63) rfl rfl (x_call (vs := [(Value.int .i64 x64), (Value.int .i64 0), (Value.int .i64 1073741824)]) rfl rfl (mapl_cons rfl (mapl_cons rfl (mapl_cons rfl mapl_nil))) Try.func58 NN_58 NB_58) (Calls.mono h ?_)
      rintro _ w21 ⟨r65, rfl, h⟩
      refine ⟨_, rfl, ?_⟩
      refine wpR_val (v := (Value.bool r65)) (w' := w21) rfl rfl rfl (x_pickT (v := (Value.bool r65)) rfl rfl hc63 rfl) ?_
      refine wpR_nil ?_
      exact ⟨r65, ⟨rfl, e1, e3, trivial⟩, h⟩
    · replace h := h.2 hc63
      refine wpR_pass (wantN rfl rfl rfl hc63) rfl rfl ?_
      refine wpR_pass (wantN rfl rfl rfl hc63) rfl rfl ?_
      refine wpR_pass (wantN rfl rfl rfl hc63) rfl rfl ?_
      refine wpR_val (v := (Value.bool false)) (w' := w20) rfl rfl rfl (x_pickF (v := (Value.bool false)) rfl rfl hc63 rfl) ?_
      refine wpR_nil ?_
      exact ⟨false, ⟨rfl, e1, e3, trivial⟩, h⟩
  clear h
  rintro c66 ρ w22 ⟨e66, e1, e3, -⟩ h
  replace h := hk c66 w22 h
  clear hk
  refine wpR_val (v := (Value.bool c66)) (w' := w22) rfl rfl rfl (x_move (v := (Value.bool c66)) rfl e66) ?_
  obtain ⟨J67, h, hk⟩ := h
  refine wpR_joinJ 4 (fun x ρ => ρ 71 = Value.bool x ∧ ρ 1 = (Value.pointer (some (Addr.mk b9 0 none))) ∧ ρ 3 = (Value.bool c44) ∧ True) (J67) ?_ ?_
  · clear hk
    rcases Bool.eq_false_or_eq_true (c66) with hc68 | hc68
    · replace h := h.1 hc68
      refine wpR_val (v := (Value.pointer (some ((Addr.mk b9 0 none).add 18)))) (w' := w22) (wantG rfl rfl rfl hc68) rfl rfl (x_fieldAddr rfl e1 FA_24_18) ?_
      obtain ⟨x69, q69, h⟩ := h
      refine wpR_val (v := (Value.int .i64 x69)) (w' := w22) (wantG rfl rfl rfl hc68) rfl rfl (x_load1 rfl rfl SH_3 q69) ?_
      refine wpR_enter (wantG rfl rfl rfl hc68) rfl rfl (x_call (vs := [(Value.int .i64 x69), (Value.int .i64 0), (Value.int .i64 1073741824)]) rfl rfl (mapl_cons rfl (mapl_cons rfl (mapl_cons rfl mapl_nil))) Try.func58 NN_58 NB_58) (Calls.mono h ?_)
      rintro _ w23 ⟨r70, rfl, h⟩
      refine ⟨_, rfl, ?_⟩
      refine wpR_val (v := (Value.bool r70)) (w' := w23) rfl rfl rfl (x_pickT (v := (Value.bool r70)) rfl rfl hc68 rfl) ?_
      refine wpR_nil ?_
      exact ⟨r70, ⟨rfl, e1, e3, trivial⟩, h⟩
    · replace h := h.2 hc68
      refine wpR_pass (wantN rfl rfl rfl hc68) rfl rfl ?_
      refine wpR_pass (wantN rfl rfl rfl hc68) rfl rfl ?_
      refine wpR_pass (wantN rfl rfl rfl hc68) rfl rfl ?_
      refine wpR_val (v := (Value.bool false)) (w' := w22) rfl rfl rfl (x_pickF (v := (Value.bool false)) rfl rfl hc68 rfl) ?_
      refine wpR_nil ?_
      exact ⟨false, ⟨rfl, e1, e3, trivial⟩, h⟩
  clear h
  rintro c71 ρ w24 ⟨e71, e1, e3, -⟩ h
  replace h := hk c71 w24 h
  clear hk
  refine wpR_val (v := (Value.bool c71)) (w' := w24) rfl rfl rfl (x_move (v := (Value.bool c71)) rfl e71) ?_
  obtain ⟨J72, h, hk⟩ := h
  refine wpR_joinJ 4 (fun x ρ => ρ 76 = Value.bool x ∧ ρ 1 = (Value.pointer (some (Addr.mk b9 0 none))) ∧ ρ 3 = (Value.bool c44) ∧ True) (J72) ?_ ?_
  · clear hk
    rcases Bool.eq_false_or_eq_true (c71) with hc73 | hc73
    · replace h := h.1 hc73
      refine wpR_val (v := (Value.pointer (some ((Addr.mk b9 0 none).add 19)))) (w' := w24) (wantG rfl rfl rfl hc73) rfl rfl (x_fieldAddr rfl e1 FA_24_19) ?_
      obtain ⟨x74, q74, h⟩ := h
      refine wpR_val (v := (Value.int .i64 x74)) (w' := w24) (wantG rfl rfl rfl hc73) rfl rfl (x_load1 rfl rfl SH_3 q74) ?_
      refine wpR_enter (wantG rfl rfl rfl hc73) rfl rfl (x_call (vs := [(Value.int .i64 x74), (Value.int .i64 0), (Value.int .i64 1073741824)]) rfl rfl (mapl_cons rfl (mapl_cons rfl (mapl_cons rfl mapl_nil))) Try.func58 NN_58 NB_58) (Calls.mono h ?_)
      rintro _ w25 ⟨r75, rfl, h⟩
      refine ⟨_, rfl, ?_⟩
      refine wpR_val (v := (Value.bool r75)) (w' := w25) rfl rfl rfl (x_pickT (v := (Value.bool r75)) rfl rfl hc73 rfl) ?_
      refine wpR_nil ?_
      exact ⟨r75, ⟨rfl, e1, e3, trivial⟩, h⟩
    · replace h := h.2 hc73
      refine wpR_pass (wantN rfl rfl rfl hc73) rfl rfl ?_
      refine wpR_pass (wantN rfl rfl rfl hc73) rfl rfl ?_
      refine wpR_pass (wantN rfl rfl rfl hc73) rfl rfl ?_
      refine wpR_val (v := (Value.bool false)) (w' := w24) rfl rfl rfl (x_pickF (v := (Value.bool false)) rfl rfl hc73 rfl) ?_
      refine wpR_nil ?_
      exact ⟨false, ⟨rfl, e1, e3, trivial⟩, h⟩
  clear h
  rintro c76 ρ w26 ⟨e76, e1, e3, -⟩ h
  replace h := hk c76 w26 h
  clear hk
  refine wpR_val (v := (Value.bool c76)) (w' := w26) rfl rfl rfl (x_move (v := (Value.bool c76)) rfl e76) ?_
  obtain ⟨J77, h, hk⟩ := h
  refine wpR_joinJ 4 (fun x ρ => ρ 81 = Value.bool x ∧ ρ 1 = (Value.pointer (some (Addr.mk b9 0 none))) ∧ ρ 3 = (Value.bool c44) ∧ True) (J77) ?_ ?_
  · clear hk
    rcases Bool.eq_false_or_eq_true (c76) with hc78 | hc78
    · replace h := h.1 hc78
      refine wpR_val (v := (Value.pointer (some ((Addr.mk b9 0 none).add 20)))) (w' := w26) (wantG rfl rfl rfl hc78) rfl rfl (x_fieldAddr rfl e1 FA_24_20) ?_
      obtain ⟨x79, q79, h⟩ := h
      refine wpR_val (v := (Value.int .i64 x79)) (w' := w26) (wantG rfl rfl rfl hc78) rfl rfl (x_load1 rfl rfl SH_3 q79) ?_
      refine wpR_enter (wantG rfl rfl rfl hc78) rfl rfl (x_call (vs := [(Value.int .i64 x79), (Value.int .i64 0), (Value.int .i64 1073741824)]) rfl rfl (mapl_cons rfl (mapl_cons rfl (mapl_cons rfl mapl_nil))) Try.func58 NN_58 NB_58) (Calls.mono h ?_)
      rintro _ w27 ⟨r80, rfl, h⟩
      refine ⟨_, rfl, ?_⟩
      refine wpR_val (v := (Value.bool r80)) (w' := w27) rfl rfl rfl (x_pickT (v := (Value.bool r80)) rfl rfl hc78 rfl) ?_
      refine wpR_nil ?_
      exact ⟨r80, ⟨rfl, e1, e3, trivial⟩, h⟩
    · replace h := h.2 hc78
      refine wpR_pass (wantN rfl rfl rfl hc78) rfl rfl ?_
      refine wpR_pass (wantN rfl rfl rfl hc78) rfl rfl ?_
      refine wpR_pass (wantN rfl rfl rfl hc78) rfl rfl ?_
      refine wpR_val (v := (Value.bool false)) (w' := w26) rfl rfl rfl (x_pickF (v := (Value.bool false)) rfl rfl hc78 rfl) ?_
      refine wpR_nil ?_
      exact ⟨false, ⟨rfl, e1, e3, trivial⟩, h⟩
  clear h
  rintro c81 ρ w28 ⟨e81, e1, e3, -⟩ h
  replace h := hk c81 w28 h
  clear hk
  refine wpR_val (v := (Value.bool c81)) (w' := w28) rfl rfl rfl (x_move (v := (Value.bool c81)) rfl e81) ?_
  obtain ⟨J82, h, hk⟩ := h
  refine wpR_joinJ 4 (fun x ρ => ρ 86 = Value.bool x ∧ ρ 1 = (Value.pointer (some (Addr.mk b9 0 none))) ∧ ρ 3 = (Value.bool c44) ∧ True) (J82) ?_ ?_
  · clear hk
    rcases Bool.eq_false_or_eq_true (c81) with hc83 | hc83
    · replace h := h.1 hc83
      refine wpR_val (v := (Value.pointer (some ((Addr.mk b9 0 none).add 21)))) (w' := w28) (wantG rfl rfl rfl hc83) rfl rfl (x_fieldAddr rfl e1 FA_24_21) ?_
      obtain ⟨x84, q84, h⟩ := h
      refine wpR_val (v := (Value.int .i64 x84)) (w' := w28) (wantG rfl rfl rfl hc83) rfl rfl (x_load1 rfl rfl SH_3 q84) ?_
      refine wpR_enter (wantG rfl rfl rfl hc83) rfl rfl (x_call (vs := [(Value.int .i64 x84), (Value.int .i64 0), (Value.int .i64 1073741824)]) rfl rfl (mapl_cons rfl (mapl_cons rfl (mapl_cons rfl mapl_nil))) Try.func58 NN_58 NB_58) (Calls.mono h ?_)
      rintro _ w29 ⟨r85, rfl, h⟩
      refine ⟨_, rfl, ?_⟩
      refine wpR_val (v := (Value.bool r85)) (w' := w29) rfl rfl rfl (x_pickT (v := (Value.bool r85)) rfl rfl hc83 rfl) ?_
      refine wpR_nil ?_
      exact ⟨r85, ⟨rfl, e1, e3, trivial⟩, h⟩
    · replace h := h.2 hc83
      refine wpR_pass (wantN rfl rfl rfl hc83) rfl rfl ?_
      refine wpR_pass (wantN rfl rfl rfl hc83) rfl rfl ?_
      refine wpR_pass (wantN rfl rfl rfl hc83) rfl rfl ?_
      refine wpR_val (v := (Value.bool false)) (w' := w28) rfl rfl rfl (x_pickF (v := (Value.bool false)) rfl rfl hc83 rfl) ?_
      refine wpR_nil ?_
      exact ⟨false, ⟨rfl, e1, e3, trivial⟩, h⟩
  clear h
  rintro c86 ρ w30 ⟨e86, e1, e3, -⟩ h
  replace h := hk c86 w30 h
  clear hk
  refine wpR_val (v := (Value.bool c86)) (w' := w30) rfl rfl rfl (x_assign (v := (Value.bool c86)) rfl e86) ?_
  refine wpR_nil ?_
  refine wpC_seq ?_
  refine wpC_seq ?_
  refine wpC_cut (fun ρ => ρ 1 = (Value.pointer (some (Addr.mk b9 0 none))) ∧ ρ 3 = (Value.bool c44) ∧ ρ 4 = (Value.bool c86) ∧ True) ⟨e1, e3, rfl, trivial⟩ ?_
  rintro ρ ⟨e1, e3, e4, -⟩
  refine wpC_region ?_
  refine wpR_val (v := (Value.bool c44)) (w' := w30) rfl rfl rfl (x_move (v := (Value.bool c44)) rfl e3) ?_
  refine wpR_val (v := (Value.bool (!c44))) (w' := w30) rfl rfl rfl (x_not rfl rfl) ?_
  refine wpR_val (v := (Value.bool (!c44))) (w' := w30) rfl rfl rfl (x_move (v := (Value.bool (!c44))) rfl rfl) ?_
  refine wpR_joinJ 3 (fun (_ : Unit) ρ => ρ 92 = Value.bool ((!c44) || (!c86)) ∧ ρ 1 = (Value.pointer (some (Addr.mk b9 0 none))) ∧ True) (fun _ w => w30 = w) ?_ ?_
  · clear h
    rcases Bool.eq_false_or_eq_true (!c44) with hc88 | hc88
    · skip
      refine wpR_pass (wantN rfl rfl rfl hc88) rfl rfl ?_
      refine wpR_pass (wantN rfl rfl rfl hc88) rfl rfl ?_
      refine wpR_val (v := (Value.bool true)) (w' := w30) rfl rfl rfl (x_pickT (v := (Value.bool true)) rfl rfl hc88 rfl) ?_
      refine wpR_nil ?_
      exact ⟨(), ⟨(by rw [hc88]; rfl), e1, trivial⟩, rfl⟩
    · skip
      refine wpR_val (v := (Value.bool c86)) (w' := w30) (wantG rfl rfl rfl hc88) rfl rfl (x_move (v := (Value.bool c86)) rfl e4) ?_
      refine wpR_val (v := (Value.bool (!c86))) (w' := w30) (wantG rfl rfl rfl hc88) rfl rfl (x_not rfl rfl) ?_
      refine wpR_val (v := (Value.bool (!c86))) (w' := w30) rfl rfl rfl (x_pickF (v := (Value.bool (!c86))) rfl rfl hc88 rfl) ?_
      refine wpR_nil ?_
      exact ⟨(), ⟨(by rw [hc88]; rfl), e1, trivial⟩, rfl⟩
  rintro _ ρ wj ⟨e92, e1, -⟩ rfl
  refine wpR_val (v := (Value.bool ((!c44) || (!c86)))) (w' := w30) rfl rfl rfl (x_move (v := (Value.bool ((!c44) || (!c86)))) rfl e92) ?_
  obtain ⟨J89, h, hk⟩ := h
  refine wpR_joinJ 5 (fun x ρ => ρ 98 = Value.bool x ∧ ρ 1 = (Value.pointer (some (Addr.mk b9 0 none))) ∧ True) (J89) ?_ ?_
  · clear hk
    rcases Bool.eq_false_or_eq_true ((!c44) || (!c86)) with hc90 | hc90
    · replace h := h.1 hc90
      refine wpR_pass (wantN rfl rfl rfl hc90) rfl rfl ?_
      refine wpR_pass (wantN rfl rfl rfl hc90) rfl rfl ?_
      refine wpR_pass (wantN rfl rfl rfl hc90) rfl rfl ?_
      refine wpR_pass (wantN rfl rfl rfl hc90) rfl rfl ?_
      refine wpR_val (v := (Value.bool true)) (w' := w30) rfl rfl rfl (x_pickT (v := (Value.bool true)) rfl rfl hc90 rfl) ?_
      refine wpR_nil ?_
      exact ⟨true, ⟨rfl, e1, trivial⟩, h⟩
    · replace h := h.2 hc90
      refine wpR_val (v := (Value.pointer (some ((Addr.mk b9 0 none).add 0)))) (w' := w30) (wantG rfl rfl rfl hc90) rfl rfl (x_fieldAddr rfl e1 FA_24_0) ?_
      obtain ⟨x91, q91, h⟩ := h
      refine wpR_val (v := (Value.string x91)) (w' := w30) (wantG rfl rfl rfl hc90) rfl rfl (x_load1 rfl rfl SH_9 q91) ?_
      refine wpR_enter (wantG rfl rfl rfl hc90) rfl rfl (x_call (vs := [(Value.string x91)]) rfl rfl (mapl_cons rfl mapl_nil) Try.func59 NN_59 NB_59) (Calls.mono h ?_)
      rintro _ w31 ⟨r92, rfl, h⟩
      refine ⟨_, rfl, ?_⟩
      refine wpR_val (v := (Value.bool (!r92))) (w' := w31) (wantG rfl rfl rfl hc90) rfl rfl (x_not rfl rfl) ?_
      refine wpR_val (v := (Value.bool (!r92))) (w' := w31) rfl rfl rfl (x_pickF (v := (Value.bool (!r92))) rfl rfl hc90 rfl) ?_
      refine wpR_nil ?_
      exact ⟨!r92, ⟨rfl, e1, trivial⟩, h⟩
  clear h
  rintro c93 ρ w32 ⟨e98, e1, -⟩ h
  replace h := hk c93 w32 h
  clear hk
  refine wpR_val (v := (Value.bool c93)) (w' := w32) rfl rfl rfl (x_move (v := (Value.bool c93)) rfl e98) ?_
  obtain ⟨J94, h, hk⟩ := h
  refine wpR_joinJ 9 (fun x ρ => ρ 108 = Value.bool x ∧ ρ 1 = (Value.pointer (some (Addr.mk b9 0 none))) ∧ True) (fun x w => J94 x ∧ w32 = w) ?_ ?_
  · clear hk
    rcases Bool.eq_false_or_eq_true (c93) with hc95 | hc95
    · replace h := h.1 hc95
      refine wpR_pass (wantN rfl rfl rfl hc95) rfl rfl ?_
      refine wpR_pass (wantN rfl rfl rfl hc95) rfl rfl ?_
      refine wpR_pass (wantN rfl rfl rfl hc95) rfl rfl ?_
      refine wpR_pass (wantN rfl rfl rfl hc95) rfl rfl ?_
      refine wpR_pass (wantU rfl rfl rfl) rfl rfl ?_
      refine wpR_pass (wantU rfl rfl rfl) rfl rfl ?_
      refine wpR_pass (wantU rfl rfl rfl) rfl rfl ?_
      refine wpR_pass (wantN rfl rfl rfl hc95) rfl rfl ?_
      refine wpR_val (v := (Value.bool true)) (w' := w32) rfl rfl rfl (x_pickT (v := (Value.bool true)) rfl rfl hc95 rfl) ?_
      refine wpR_nil ?_
      exact ⟨true, ⟨rfl, e1, trivial⟩, h, rfl⟩
    · replace h := h.2 hc95
      refine wpR_val (v := (Value.pointer (some ((Addr.mk b9 0 none).add 1)))) (w' := w32) (wantG rfl rfl rfl hc95) rfl rfl (x_fieldAddr rfl e1 FA_24_1) ?_
      obtain ⟨x96, q96, h⟩ := h
      refine wpR_val (v := (Value.int .i64 x96)) (w' := w32) (wantG rfl rfl rfl hc95) rfl rfl (x_load1 rfl rfl SH_3 q96) ?_
      refine wpR_val (v := (Value.bool (decide (x96 = 0)))) (w' := w32) (wantG rfl rfl rfl hc95) rfl rfl (x_eql rfl rfl rfl) ?_
      refine wpR_val (v := (Value.bool (decide (x96 = 0)))) (w' := w32) (wantG rfl rfl rfl hc95) rfl rfl (x_move (v := (Value.bool (decide (x96 = 0)))) rfl rfl) ?_
      obtain ⟨J97, h, hk⟩ := h
      refine wpR_joinJ 4 (fun x ρ => ρ 107 = Value.bool x ∧ ρ 1 = (Value.pointer (some (Addr.mk b9 0 none))) ∧ ρ 99 = (Value.bool c93) ∧ True) (fun x w => J97 x ∧ w32 = w) ?_ ?_
      · clear hk
        rcases Bool.eq_false_or_eq_true (decide (x96 = 0)) with hc98 | hc98
        · replace h := h.1 hc98
          refine wpR_val (v := (Value.pointer (some ((Addr.mk b9 0 none).add 2)))) (w' := w32) (wantG rfl rfl rfl hc98) rfl rfl (x_fieldAddr rfl e1 FA_24_2) ?_
          obtain ⟨x99, q99, h⟩ := h
          refine wpR_val (v := (Value.int .i64 x99)) (w' := w32) (wantG rfl rfl rfl hc98) rfl rfl (x_load1 rfl rfl SH_3 q99) ?_
          refine wpR_val (v := (Value.bool (!decide (x99 = 0)))) (w' := w32) (wantG rfl rfl rfl hc98) rfl rfl (x_neq rfl rfl rfl) ?_
          refine wpR_val (v := (Value.bool (!decide (x99 = 0)))) (w' := w32) (wantG rfl rfl rfl hc95) rfl rfl (x_pickT (v := (Value.bool (!decide (x99 = 0)))) rfl rfl hc98 rfl) ?_
          refine wpR_nil ?_
          exact ⟨!decide (x99 = 0), ⟨rfl, e1, rfl, trivial⟩, h, rfl⟩
        · replace h := h.2 hc98
          refine wpR_pass (wantN rfl rfl rfl hc98) rfl rfl ?_
          refine wpR_pass (wantN rfl rfl rfl hc98) rfl rfl ?_
          refine wpR_pass (wantN rfl rfl rfl hc98) rfl rfl ?_
          refine wpR_val (v := (Value.bool false)) (w' := w32) (wantG rfl rfl rfl hc95) rfl rfl (x_pickF (v := (Value.bool false)) rfl rfl hc98 rfl) ?_
          refine wpR_nil ?_
          exact ⟨false, ⟨rfl, e1, rfl, trivial⟩, h, rfl⟩
      clear h
      rintro c100 ρ wj ⟨e107, e1, e99, -⟩ ⟨h, rfl⟩
      replace h := hk c100 h
      clear hk
      refine wpR_val (v := (Value.bool c100)) (w' := w32) rfl rfl rfl (x_pickF (v := (Value.bool c100)) rfl e99 hc95 e107) ?_
      refine wpR_nil ?_
      exact ⟨c100, ⟨rfl, e1, trivial⟩, h, rfl⟩
  clear h
  rintro c101 ρ wj ⟨e108, e1, -⟩ ⟨h, rfl⟩
  replace h := hk c101 h
  clear hk
  refine wpR_nil ?_
  refine wpC_cond (b := c101) e108 (fun hc102 => ?_) (fun hc102 => ?_)
  · replace h := h.1 hc102
    refine wpC_seq ?_
    refine wpC_region ?_
    refine wpR_val (v := (Value.bool false)) (w' := w32) rfl rfl rfl (x_assign (v := (Value.bool false)) rfl rfl) ?_
    refine wpR_nil ?_
    refine wpC_ret ?_
    exact ⟨.inl rfl, fun a ha => ⟨_, results_rep1 rfl ha rfl, false, rfl, h⟩⟩
  · replace h := h.2 hc102
    refine wpC_skip ?_
    refine wpC_seq ?_
    refine wpC_seq ?_
    refine wpC_region ?_
    refine wpR_val (v := (Value.pointer (some ((Addr.mk b9 0 none).add 10)))) (w' := w32) rfl rfl rfl (x_fieldAddr rfl e1 FA_24_10) ?_
    obtain ⟨x103, q103, h⟩ := h
    refine wpR_val (v := (Value.int .i64 x103)) (w' := w32) rfl rfl rfl (x_load1 rfl rfl SH_3 q103) ?_
    refine wpR_val (v := (Value.bool (decide (x103 = 0)))) (w' := w32) rfl rfl rfl (x_eql rfl rfl rfl) ?_
    refine wpR_nil ?_
    refine wpC_cond (b := decide (x103 = 0)) rfl (fun hc104 => ?_) (fun hc104 => ?_)
    · replace h := h.1 hc104
      refine wpC_seq ?_
      refine wpC_cut (fun ρ => ρ 1 = (Value.pointer (some (Addr.mk b9 0 none))) ∧ True) ⟨e1, trivial⟩ ?_
      rintro ρ ⟨e1, -⟩
      refine wpC_region ?_
      refine wpR_val (v := (Value.pointer (some ((Addr.mk b9 0 none).add 11)))) (w' := w32) rfl rfl rfl (x_fieldAddr rfl e1 FA_24_11) ?_
      obtain ⟨x105, q105, h⟩ := h
      refine wpR_val (v := (Value.int .i64 x105)) (w' := w32) rfl rfl rfl (x_load1 rfl rfl SH_3 q105) ?_
      refine wpR_val (v := (Value.bool (decide (x105 = 0)))) (w' := w32) rfl rfl rfl (x_eql rfl rfl rfl) ?_
      refine wpR_val (v := (Value.bool (decide (x105 = 0)))) (w' := w32) rfl rfl rfl (x_move (v := (Value.bool (decide (x105 = 0)))) rfl rfl) ?_
      obtain ⟨J106, h, hk⟩ := h
      refine wpR_joinJ 5 (fun x ρ => ρ 120 = Value.bool x ∧ True) (fun x w => J106 x ∧ w32 = w) ?_ ?_
      · clear hk
        rcases Bool.eq_false_or_eq_true (decide (x105 = 0)) with hc107 | hc107
        · replace h := h.1 hc107
          refine wpR_val (v := (Value.pointer (some ((Addr.mk b9 0 none).add 12)))) (w' := w32) (wantG rfl rfl rfl hc107) rfl rfl (x_fieldAddr rfl e1 FA_24_12) ?_
          obtain ⟨x108, q108, h⟩ := h
          refine wpR_val (v := (Sl.v x108)) (w' := w32) (wantG rfl rfl rfl hc107) rfl rfl (x_load1 rfl rfl SH_22 q108) ?_
          refine wpR_val (v := (Value.int .i64 (x108.len : Int))) (w' := w32) (wantG rfl rfl rfl hc107) rfl rfl (x_lenS (s := x108) rfl rfl isSliceT_22) ?_
          refine wpR_val (v := (Value.bool (decide ((x108.len : Int) = 0)))) (w' := w32) (wantG rfl rfl rfl hc107) rfl rfl (x_eql rfl rfl rfl) ?_
          refine wpR_val (v := (Value.bool (decide ((x108.len : Int) = 0)))) (w' := w32) rfl rfl rfl (x_pickT (v := (Value.bool (decide ((x108.len : Int) = 0)))) rfl rfl hc107 rfl) ?_
          refine wpR_nil ?_
          exact ⟨decide ((x108.len : Int) = 0), ⟨rfl, trivial⟩, h, rfl⟩
        · replace h := h.2 hc107
          refine wpR_pass (wantN rfl rfl rfl hc107) rfl rfl ?_
          refine wpR_pass (wantN rfl rfl rfl hc107) rfl rfl ?_
          refine wpR_pass (wantN rfl rfl rfl hc107) rfl rfl ?_
          refine wpR_pass (wantN rfl rfl rfl hc107) rfl rfl ?_
          refine wpR_val (v := (Value.bool false)) (w' := w32) rfl rfl rfl (x_pickF (v := (Value.bool false)) rfl rfl hc107 rfl) ?_
          refine wpR_nil ?_
          exact ⟨false, ⟨rfl, trivial⟩, h, rfl⟩
      clear h
      rintro c109 ρ wj ⟨e120, -⟩ ⟨h, rfl⟩
      replace h := hk c109 h
      clear hk
      refine wpR_val (v := (Value.bool c109)) (w' := w32) rfl rfl rfl (x_assign (v := (Value.bool c109)) rfl e120) ?_
      refine wpR_nil ?_
      refine wpC_ret ?_
      exact ⟨.inl rfl, fun a ha => ⟨_, results_rep1 rfl ha rfl, c109, rfl, h⟩⟩
    · replace h := h.2 hc104
      refine wpC_skip ?_
      refine wpC_seq ?_
      refine wpC_seq ?_
      refine wpC_cut (fun ρ => ρ 1 = (Value.pointer (some (Addr.mk b9 0 none))) ∧ True) ⟨e1, trivial⟩ ?_
      rintro ρ ⟨e1, -⟩
      refine wpC_region ?_
      refine wpR_val (v := (Value.pointer (some ((Addr.mk b9 0 none).add 12)))) (w' := w32) rfl rfl rfl (x_fieldAddr rfl e1 FA_24_12) ?_
      obtain ⟨x110, q110, h⟩ := h
      refine wpR_val (v := (Sl.v x110)) (w' := w32) rfl rfl rfl (x_load1 rfl rfl SH_22 q110) ?_
      refine wpR_val (v := (Value.int .i64 (x110.len : Int))) (w' := w32) rfl rfl rfl (x_lenS (s := x110) rfl rfl isSliceT_22) ?_
      refine wpR_val (v := (Value.bool (decide ((x110.len : Int) < 1)))) (w' := w32) rfl rfl rfl (x_lss rfl rfl rfl) ?_
      refine wpR_val (v := (Value.bool (decide ((x110.len : Int) < 1)))) (w' := w32) rfl rfl rfl (x_move (v := (Value.bool (decide ((x110.len : Int) < 1)))) rfl rfl) ?_
      obtain ⟨J111, h, hk⟩ := h
      refine wpR_joinJ 5 (fun x ρ => ρ 130 = Value.bool x ∧ ρ 1 = (Value.pointer (some (Addr.mk b9 0 none))) ∧ True) (fun x w => J111 x ∧ w32 = w) ?_ ?_
      · clear hk
        rcases Bool.eq_false_or_eq_true (decide ((x110.len : Int) < 1)) with hc112 | hc112
        · replace h := h.1 hc112
          refine wpR_pass (wantN rfl rfl rfl hc112) rfl rfl ?_
          refine wpR_pass (wantN rfl rfl rfl hc112) rfl rfl ?_
          refine wpR_pass (wantN rfl rfl rfl hc112) rfl rfl ?_
          refine wpR_pass (wantN rfl rfl rfl hc112) rfl rfl ?_
          refine wpR_val (v := (Value.bool true)) (w' := w32) rfl rfl rfl (x_pickT (v := (Value.bool true)) rfl rfl hc112 rfl) ?_
          refine wpR_nil ?_
          exact ⟨true, ⟨rfl, e1, trivial⟩, h, rfl⟩
        · replace h := h.2 hc112
          refine wpR_val (v := (Value.pointer (some ((Addr.mk b9 0 none).add 12)))) (w' := w32) (wantG rfl rfl rfl hc112) rfl rfl (x_fieldAddr rfl e1 FA_24_12) ?_
          obtain ⟨x113, q113, h⟩ := h
          refine wpR_val (v := (Sl.v x113)) (w' := w32) (wantG rfl rfl rfl hc112) rfl rfl (x_load1 rfl rfl SH_22 q113) ?_
          refine wpR_val (v := (Value.int .i64 (x113.len : Int))) (w' := w32) (wantG rfl rfl rfl hc112) rfl rfl (x_lenS (s := x113) rfl rfl isSliceT_22) ?_
          refine wpR_val (v := (Value.bool (decide (20 < (x113.len : Int))))) (w' := w32) (wantG rfl rfl rfl hc112) rfl rfl (x_gtr rfl rfl rfl) ?_
          refine wpR_val (v := (Value.bool (decide (20 < (x113.len : Int))))) (w' := w32) rfl rfl rfl (x_pickF (v := (Value.bool (decide (20 < (x113.len : Int))))) rfl rfl hc112 rfl) ?_
          refine wpR_nil ?_
          exact ⟨decide (20 < (x113.len : Int)), ⟨rfl, e1, trivial⟩, h, rfl⟩
      clear h
      rintro c114 ρ wj ⟨e130, e1, -⟩ ⟨h, rfl⟩
      replace h := hk c114 h
      clear hk
      refine wpR_nil ?_
      refine wpC_cond (b := c114) e130 (fun hc115 => ?_) (fun hc115 => ?_)
      · replace h := h.1 hc115
        refine wpC_seq ?_
        refine wpC_region ?_
        refine wpR_val (v := (Value.bool false)) (w' := w32) rfl rfl rfl (x_assign (v := (Value.bool false)) rfl rfl) ?_
        refine wpR_nil ?_
        refine wpC_ret ?_
        exact ⟨.inl rfl, fun a ha => ⟨_, results_rep1 rfl ha rfl, false, rfl, h⟩⟩
      · replace h := h.2 hc115
        refine wpC_skip ?_
        refine wpC_seq ?_
        refine wpC_seq ?_
        refine wpC_region ?_
        refine wpR_val (v := (Value.int .i64 0)) (w' := w32) rfl rfl rfl (x_assign (v := (Value.int .i64 0)) rfl rfl) ?_
        refine wpR_nil ?_
        refine wpC_block ?_
        obtain ⟨I116, μ116, hI116, hr116⟩ := h
        refine wpC_loop (fun (x : Int) ρ => ρ 5 = (Value.int .i64 x) ∧ ρ 1 = (Value.pointer (some (Addr.mk b9 0 none))) ∧ True) I116 μ116 0 ⟨rfl, e1, trivial⟩ hI116 ?_
        rintro l116 ρ w33 ⟨e5, e1, -⟩ h
        replace h := hr116 l116 w33 h
        clear hr116 hI116
        refine wpC_seq ?_
        refine wpC_seq ?_
        refine wpC_region ?_
        refine wpR_val (v := (Value.int .i64 l116)) (w' := w33) rfl rfl rfl (x_move (v := (Value.int .i64 l116)) rfl e5) ?_
        refine wpR_val (v := (Value.pointer (some ((Addr.mk b9 0 none).add 12)))) (w' := w33) rfl rfl rfl (x_fieldAddr rfl e1 FA_24_12) ?_
        obtain ⟨x117, q117, h⟩ := h
        refine wpR_val (v := (Sl.v x117)) (w' := w33) rfl rfl rfl (x_load1 rfl rfl SH_22 q117) ?_
        refine wpR_val (v := (Value.int .i64 (x117.len : Int))) (w' := w33) rfl rfl rfl (x_lenS (s := x117) rfl rfl isSliceT_22) ?_
        refine wpR_val (v := (Value.bool (decide (l116 < (x117.len : Int))))) (w' := w33) rfl rfl rfl (x_lss rfl rfl rfl) ?_
        refine wpR_nil ?_
        refine wpC_cond (b := decide (l116 < (x117.len : Int))) rfl (fun hc118 => ?_) (fun hc118 => ?_)
        · replace h := h.1 hc118
          refine wpC_skip ?_
          refine wpC_seq ?_
          refine wpC_block ?_
          refine wpC_seq ?_
          refine wpC_cut (fun ρ => ρ 1 = (Value.pointer (some (Addr.mk b9 0 none))) ∧ ρ 5 = (Value.int .i64 l116) ∧ True) ⟨e1, e5, trivial⟩ ?_
          rintro ρ ⟨e1, e5, -⟩
          refine wpC_region ?_
          refine wpR_val (v := (Value.pointer (some ((Addr.mk b9 0 none).add 12)))) (w' := w33) rfl rfl rfl (x_fieldAddr rfl e1 FA_24_12) ?_
          obtain ⟨x119, q119, h⟩ := h
          refine wpR_val (v := (Sl.v x119)) (w' := w33) rfl rfl rfl (x_load1 rfl rfl SH_22 q119) ?_
          refine wpR_val (v := (Value.int .i64 l116)) (w' := w33) rfl rfl rfl (x_move (v := (Value.int .i64 l116)) rfl e5) ?_
          obtain ⟨q120, z120, r120, h⟩ := h
          generalize hp120 : z120.add ((l116 : Int).toNat * 1) = p120 at h
          refine wpR_val (v := (Value.pointer (some p120))) (w' := w33) rfl rfl rfl ((x_indexAddr (s := x119) rfl rfl rfl ES_22 q120 r120).trans (by rw [hp120])) ?_
          obtain ⟨x121, q121, h⟩ := h
          refine wpR_val (v := (Value.string x121)) (w' := w33) rfl rfl rfl (x_load1 rfl rfl SH_9 q121) ?_
          refine wpR_enter rfl rfl rfl (x_call (vs := [(Value.string x121)]) rfl rfl (mapl_cons rfl mapl_nil) Try.func59 NN_59 NB_59) (Calls.mono h ?_)
          rintro _ w34 ⟨r122, rfl, h⟩
          refine ⟨_, rfl, ?_⟩
          refine wpR_val (v := (Value.bool (!r122))) (w' := w34) rfl rfl rfl (x_not rfl rfl) ?_
          refine wpR_nil ?_
          refine wpC_cond (b := !r122) rfl (fun hc123 => ?_) (fun hc123 => ?_)
          · replace h := h.1 hc123
            refine wpC_seq ?_
            refine wpC_cut (fun ρ => True) trivial ?_
            rintro ρ -
            refine wpC_region ?_
            refine wpR_val (v := (Value.bool false)) (w' := w34) rfl rfl rfl (x_assign (v := (Value.bool false)) rfl rfl) ?_
            refine wpR_nil ?_
            refine wpC_ret ?_
            exact ⟨.inl rfl, fun a ha => ⟨_, results_rep1 rfl ha rfl, false, rfl, h⟩⟩
          · replace h := h.2 hc123
            refine wpC_skip ?_
            refine wpC_cut (fun ρ => ρ 1 = (Value.pointer (some (Addr.mk b9 0 none))) ∧ ρ 5 = (Value.int .i64 l116) ∧ True) ⟨e1, e5, trivial⟩ ?_
            rintro ρ ⟨e1, e5, -⟩
            refine wpC_region ?_
            refine wpR_val (v := (Value.int .i64 l116)) (w' := w34) rfl rfl rfl (x_move (v := (Value.int .i64 l116)) rfl e5) ?_
            refine wpR_val (v := (Value.int .i64 (IntKind.i64.wrap (l116 + 1)))) (w' := w34) rfl rfl rfl (x_add rfl rfl rfl) ?_
            refine wpR_val (v := (Value.int .i64 (IntKind.i64.wrap (l116 + 1)))) (w' := w34) rfl rfl rfl (x_assign (v := (Value.int .i64 (IntKind.i64.wrap (l116 + 1)))) rfl rfl) ?_
            refine wpR_nil ?_
            exact ⟨IntKind.i64.wrap (l116 + 1), ⟨rfl, e1, trivial⟩, h⟩
        · replace h := h.2 hc118
          refine wpC_exit ?_
          refine wpC_seq ?_
          refine wpC_cut (fun ρ => True) trivial ?_
          rintro ρ -
          refine wpC_region ?_
          refine wpR_val (v := (Value.bool true)) (w' := w33) rfl rfl rfl (x_assign (v := (Value.bool true)) rfl rfl) ?_
          refine wpR_nil ?_
          refine wpC_ret ?_
          exact ⟨.inl rfl, fun a ha => ⟨_, results_rep1 rfl ha rfl, true, rfl, h⟩⟩

/-- slices.Index[[]loss.option,loss.option] -/
def F51 (p0 : Sl) (p1_0 : Int) (p1_1 : Int) (p1_2 : Bool) (w0 : World) (K : Int → World → Prop) : Prop :=
  nw 55 #[(Value.int .i64 p1_0), (Value.int .i64 p1_1), (Value.bool p1_2)] w0 fun b9 w1 =>
  lp (fun (next10 : Int → World → Prop) l10 w2 =>
    cnd (decide (l10 < (p0.len : Int)))
      (
      jn (fun (J13 : Bool → World → Prop) => tk w2 fun w3 =>
        ld (Value.int .i64) ((Addr.mk b9 0 none).add 0) w3 fun x14 =>
        ld (Value.int .i64) ((Addr.mk b9 0 none).add 1) w3 fun x15 =>
        ld Value.bool ((Addr.mk b9 0 none).add 2) w3 fun x16 =>
        ix p0 l10 3 fun p17 =>
        ld (Value.int .i64) (p17.add 0) w3 fun x18 =>
        ld (Value.int .i64) (p17.add 1) w3 fun x19 =>
        ld Value.bool (p17.add 2) w3 fun x20 =>
        J13 ((decide (x14 = x18) && (decide (x15 = x19) && true)) && ((x16 == x20) && true)) w3
      )
      fun l21 w4 =>
      cnd (l21)
        (
        K l10 w4
        )
        (
        next10 (IntKind.i64.wrap (l10 + 1)) w4
        )
      )
      (
      K (-1) w2
      )
  ) 0 w1
set_option maxRecDepth 100000 in
theorem D51 (p0 : Sl) (p1_0 : Int) (p1_1 : Int) (p1_2 : Bool) (w0 : World) (K : Int → World → Prop) (h : F51 p0 p1_0 p1_1 p1_2 w0 K) : callC Try.prog 51 #[(Sl.v p0), (Value.agg #[(Value.int .i64 p1_0), (Value.int .i64 p1_1), (Value.bool p1_2)])] (fun (r : Int) => (Value.int .i64 r)) w0 K := by
  unfold F51 at h
  refine calls_of_wpC Try.func51 rfl 19 rfl (by simp) ?_
  intro ρ hρ
  have e0 : ρ 0 = (Sl.v p0) := hρ 0
  have e1 : ρ 1 = (Value.agg #[(Value.int .i64 p1_0), (Value.int .i64 p1_1), (Value.bool p1_2)]) := hρ 1
  clear hρ
  refine wpC_seq ?_
  refine wpC_region ?_
  obtain ⟨b9, hb9⟩ : ∃ u, u = w0.heap.size := ⟨_, rfl⟩
  obtain ⟨w1, hw9⟩ : ∃ u, u = w0.alloc (.cells #[(Value.int .i64 p1_0), (Value.int .i64 p1_1), (Value.bool p1_2)] 55) := ⟨_, rfl⟩
  replace h := h b9 w1 hb9 hw9
  refine wpR_val (v := (Value.pointer (some (Addr.mk b9 0 none)))) (w' := w1) rfl rfl rfl ((x_box (v := (Value.agg #[(Value.int .i64 p1_0), (Value.int .i64 p1_1), (Value.bool p1_2)])) rfl e1).trans (by rw [hb9, hw9]; rfl)) ?_
  refine wpR_val (v := (Value.int .i64 0)) (w' := w1) rfl rfl rfl (x_assign (v := (Value.int .i64 0)) rfl rfl) ?_
  refine wpR_nil ?_
  refine wpC_seq ?_
  refine wpC_seq ?_
  refine wpC_cut (fun ρ => ρ 0 = (Sl.v p0) ∧ ρ 3 = (Value.pointer (some (Addr.mk b9 0 none))) ∧ True) ⟨e0, rfl, trivial⟩ ?_
  rintro ρ ⟨e0, e3, -⟩
  refine wpC_region ?_
  refine wpR_val (v := (Sl.v p0)) (w' := w1) rfl rfl rfl (x_move (v := (Sl.v p0)) rfl e0) ?_
  refine wpR_val (v := (Value.int .i64 (p0.len : Int))) (w' := w1) rfl rfl rfl (x_lenS (s := p0) rfl rfl isSliceT_51) ?_
  refine wpR_val (v := (Value.int .i64 0)) (w' := w1) rfl rfl rfl (x_move (v := (Value.int .i64 0)) rfl rfl) ?_
  refine wpR_nil ?_
  refine wpC_block ?_
  obtain ⟨I10, μ10, hI10, hr10⟩ := h
  refine wpC_loop (fun (x : Int) ρ => ρ 8 = (Value.int .i64 x) ∧ ρ 0 = (Sl.v p0) ∧ ρ 3 = (Value.pointer (some (Addr.mk b9 0 none))) ∧ ρ 7 = (Value.int .i64 (p0.len : Int)) ∧ True) I10 μ10 0 ⟨rfl, e0, e3, rfl, trivial⟩ hI10 ?_
  rintro l10 ρ w2 ⟨e8, e0, e3, e7, -⟩ h
  replace h := hr10 l10 w2 h
  clear hr10 hI10
  refine wpC_seq ?_
  refine wpC_region ?_
  refine wpR_val (v := (Value.bool (decide (l10 < (p0.len : Int))))) (w' := w2) rfl rfl rfl (x_lss rfl e8 e7) ?_
  refine wpR_nil ?_
  refine wpC_seq ?_
  refine wpC_cond (b := decide (l10 < (p0.len : Int))) rfl (fun hc11 => ?_) (fun hc11 => ?_)
  · replace h := h.1 hc11
    refine wpC_skip ?_
    refine wpC_seq ?_
    refine wpC_block ?_
    refine wpC_seq ?_
    refine wpC_cut (fun ρ => ρ 0 = (Sl.v p0) ∧ ρ 3 = (Value.pointer (some (Addr.mk b9 0 none))) ∧ ρ 7 = (Value.int .i64 (p0.len : Int)) ∧ ρ 8 = (Value.int .i64 l10) ∧ True) ⟨e0, e3, e7, e8, trivial⟩ ?_
    rintro ρ ⟨e0, e3, e7, e8, -⟩
    refine wpC_region ?_
    refine wpR_val (v := (Value.int .i64 l10)) (w' := w2) rfl rfl rfl (x_move (v := (Value.int .i64 l10)) rfl e8) ?_
    refine wpR_val (v := (Value.int .i64 l10)) (w' := w2) rfl rfl rfl (x_assign (v := (Value.int .i64 l10)) rfl rfl) ?_
    refine wpR_nil ?_
    refine wpC_seq ?_
    refine wpC_cut (fun ρ => ρ 0 = (Sl.v p0) ∧ ρ 3 = (Value.pointer (some (Addr.mk b9 0 none))) ∧ ρ 5 = (Value.int .i64 l10) ∧ ρ 7 = (Value.int .i64 (p0.len : Int)) ∧ ρ 8 = (Value.int .i64 l10) ∧ True) ⟨e0, e3, rfl, e7, e8, trivial⟩ ?_
    rintro ρ ⟨e0, e3, e5, e7, e8, -⟩
    obtain ⟨J13, h, hk⟩ := h
    refine wpC_drawJ (by kernel_rfl) (fun (x : Bool) ρ => ρ 16 = (Value.bool x) ∧ ρ 0 = (Sl.v p0) ∧ ρ 3 = (Value.pointer (some (Addr.mk b9 0 none))) ∧ ρ 5 = (Value.int .i64 l10) ∧ ρ 7 = (Value.int .i64 (p0.len : Int)) ∧ ρ 8 = (Value.int .i64 l10) ∧ True) J13 ?_ ?_
    · clear hk
      unfold tk at h
      generalize w2.drew = w3 at h ⊢
      obtain ⟨x14, q14, x15, q15, x16, q16, h⟩ := h
      refine wpD_take (v := (Value.agg #[(Value.int .i64 x14), (Value.int .i64 x15), (Value.bool x16)])) 0 (fun w => w.cell? ((Addr.mk b9 0 none).add 0) = some (Value.int .i64 x14) ∧ w.cell? ((Addr.mk b9 0 none).add 1) = some (Value.int .i64 x15) ∧ w.cell? ((Addr.mk b9 0 none).add 2) = some (Value.bool x16)) rfl (by kernel_rfl) (by kernel_rfl) (by kernel_rfl) rfl rfl rfl ⟨q14, q15, q16⟩ (fun w ⟨q14, q15, q16⟩ => (x_loadN [(Value.int .i64 x14), (Value.int .i64 x15), (Value.bool x16)] rfl e3 SH_55 (CellsAt.out (CellsAt.cons q14 (CellsAt.cons q15 (CellsAt.cons q16 CellsAt.nil)))))) ?_
      refine wpD_take (v := (Sl.v p0)) 1 (fun _ => True) rfl (by kernel_rfl) (by kernel_rfl) (by kernel_rfl) rfl rfl rfl trivial (fun w _ => (x_move (v := (Sl.v p0)) rfl e0)) ?_
      refine wpD_take (v := (Value.int .i64 l10)) 2 (fun _ => True) rfl (by kernel_rfl) (by kernel_rfl) (by kernel_rfl) rfl rfl rfl trivial (fun w _ => (x_move (v := (Value.int .i64 l10)) rfl e5)) ?_
      obtain ⟨q17, z17, r17, h⟩ := h
      generalize hp17 : z17.add ((l10 : Int).toNat * 3) = p17 at h
      refine wpD_take (v := (Value.pointer (some p17))) 3 (fun _ => True) rfl (by kernel_rfl) (by kernel_rfl) (by kernel_rfl) rfl rfl rfl trivial (fun w _ => ((x_indexAddr (s := p0) rfl rfl rfl ES_51 q17 r17).trans (by rw [hp17]))) ?_
      obtain ⟨x18, q18, x19, q19, x20, q20, h⟩ := h
      refine wpD_take (v := (Value.agg #[(Value.int .i64 x18), (Value.int .i64 x19), (Value.bool x20)])) 4 (fun w => w.cell? (p17.add 0) = some (Value.int .i64 x18) ∧ w.cell? (p17.add 1) = some (Value.int .i64 x19) ∧ w.cell? (p17.add 2) = some (Value.bool x20)) rfl (by kernel_rfl) (by kernel_rfl) (by kernel_rfl) rfl rfl rfl ⟨q18, q19, q20⟩ (fun w ⟨q18, q19, q20⟩ => (x_loadN [(Value.int .i64 x18), (Value.int .i64 x19), (Value.bool x20)] rfl rfl SH_55 (CellsAt.out (CellsAt.cons q18 (CellsAt.cons q19 (CellsAt.cons q20 CellsAt.nil)))))) ?_
      refine wpD_take (v := (Value.bool ((decide (x14 = x18) && (decide (x15 = x19) && true)) && ((x16 == x20) && true)))) 5 (fun _ => True) rfl (by kernel_rfl) (by kernel_rfl) (by kernel_rfl) rfl rfl rfl trivial (fun w _ => (x_eqlA rfl rfl rfl EQ1_55 EQ2_55 EQ3_55 (EQ_55 x14 x15 x16 x18 x19 x20))) ?_
      exact wpD_done (by kernel_rfl) ⟨((decide (x14 = x18) && (decide (x15 = x19) && true)) && ((x16 == x20) && true)), ⟨rfl, e0, e3, e5, e7, e8, trivial⟩, h⟩
    clear h
    rintro l21 ρ w4 ⟨e16, e0, e3, e5, e7, e8, -⟩ h
    replace h := hk l21 w4 h
    clear hk
    refine wpC_cond (b := l21) e16 (fun hc22 => ?_) (fun hc22 => ?_)
    · replace h := h.1 hc22
      refine wpC_seq ?_
      refine wpC_region ?_
      refine wpR_val (v := (Value.int .i64 l10)) (w' := w4) rfl rfl rfl (x_move (v := (Value.int .i64 l10)) rfl e5) ?_
      refine wpR_val (v := (Value.int .i64 l10)) (w' := w4) rfl rfl rfl (x_assign (v := (Value.int .i64 l10)) rfl rfl) ?_
      refine wpR_nil ?_
      refine wpC_ret ?_
      exact ⟨.inl rfl, fun a ha => ⟨_, results_rep1 rfl ha rfl, l10, rfl, h⟩⟩
    · replace h := h.2 hc22
      refine wpC_skip ?_
      refine wpC_region ?_
      refine wpR_val (v := (Value.int .i64 (IntKind.i64.wrap (l10 + 1)))) (w' := w4) rfl rfl rfl (x_add rfl e8 rfl) ?_
      refine wpR_val (v := (Value.int .i64 (IntKind.i64.wrap (l10 + 1)))) (w' := w4) rfl rfl rfl (x_move (v := (Value.int .i64 (IntKind.i64.wrap (l10 + 1)))) rfl rfl) ?_
      refine wpR_nil ?_
      exact ⟨IntKind.i64.wrap (l10 + 1), ⟨rfl, e0, e3, e7, trivial⟩, h⟩
  · replace h := h.2 hc11
    refine wpC_exit ?_
    refine wpC_seq ?_
    refine wpC_cut (fun ρ => True) trivial ?_
    rintro ρ -
    refine wpC_region ?_
    refine wpR_val (v := (Value.int .i64 (-1))) (w' := w2) rfl rfl rfl (x_assign (v := (Value.int .i64 (-1))) rfl rfl) ?_
    refine wpR_nil ?_
    refine wpC_ret ?_
    exact ⟨.inl rfl, fun a ha => ⟨_, results_rep1 rfl ha rfl, (-1), rfl, h⟩⟩

/-- linguaref20.Rank -/
def F52 (p0_0 : Int) (p0_1 : Int) (p0_2 : Int) (w0 : World) (K : Int → World → Prop) : Prop :=
  nw 44 #[(Value.int .i64 p0_0), (Value.int .i64 p0_1), (Value.int .i64 p0_2)] w0 fun b9 w1 =>
  callC Try.prog 34 #[(V23 (ByteArray.mk #[]) 0 0 0 false 0 false false 0 0 0 0 Sl.nil 0 0 0 0 false 0 0 0 0)] (fun (r : Sl) => (Sl.v r)) w1 fun r10 w2 =>
  lp (fun (next11 : Int → World → Prop) l11 w3 =>
    cnd (decide (l11 < (r10.len : Int)))
      (
      jn (fun (J14 : Bool → World → Prop) => tk w3 fun w4 =>
        ix r10 l11 5 fun p15 =>
        ld (Value.int .i64) (p15.add 0) w4 fun x16 =>
        ld (Value.int .i64) ((Addr.mk b9 0 none).add 0) w4 fun x17 =>
        cnd (decide (x16 = x17))
          (
          ix r10 l11 5 fun p19 =>
          ld (Value.int .i64) (p19.add 1) w4 fun x20 =>
          ld (Value.int .i64) ((Addr.mk b9 0 none).add 1) w4 fun x21 =>
          cnd (decide (x20 = x21))
            (
            ix r10 l11 5 fun p23 =>
            ld (Value.int .i64) (p23.add 2) w4 fun x24 =>
            ld (Value.int .i64) ((Addr.mk b9 0 none).add 2) w4 fun x25 =>
            J14 (decide (x24 = x25)) w4
            )
            (
            J14 false w4
            )
          )
          (
          J14 false w4
          )
      )
      fun l26 w5 =>
      cnd (l26)
        (
        ix r10 l11 5 fun p28 =>
        ld (Value.int .i64) (p28.add 3) w5 fun x29 =>
        K x29 w5
        )
        (
        next11 (IntKind.i64.wrap (l11 + 1)) w5
        )
      )
      (
      K 0 w3
      )
  ) 0 w2
set_option maxRecDepth 100000 in
theorem D52 (p0_0 : Int) (p0_1 : Int) (p0_2 : Int) (w0 : World) (K : Int → World → Prop) (h : F52 p0_0 p0_1 p0_2 w0 K) : callC Try.prog 52 #[(Value.agg #[(Value.int .i64 p0_0), (Value.int .i64 p0_1), (Value.int .i64 p0_2)])] (fun (r : Int) => (Value.int .i64 r)) w0 K := by
  unfold F52 at h
  refine calls_of_wpC Try.func52 rfl 46 rfl (by simp) ?_
  intro ρ hρ
  have e0 : ρ 0 = (Value.agg #[(Value.int .i64 p0_0), (Value.int .i64 p0_1), (Value.int .i64 p0_2)]) := hρ 0
  clear hρ
  refine wpC_seq ?_
  refine wpC_region ?_
  obtain ⟨b9, hb9⟩ : ∃ u, u = w0.heap.size := ⟨_, rfl⟩
  obtain ⟨w1, hw9⟩ : ∃ u, u = w0.alloc (.cells #[(Value.int .i64 p0_0), (Value.int .i64 p0_1), (Value.int .i64 p0_2)] 44) := ⟨_, rfl⟩
  replace h := h b9 w1 hb9 hw9
  refine wpR_val (v := (Value.pointer (some (Addr.mk b9 0 none)))) (w' := w1) rfl rfl rfl ((x_box (v := (Value.agg #[(Value.int .i64 p0_0), (Value.int .i64 p0_1), (Value.int .i64 p0_2)])) rfl e0).trans (by rw [hb9, hw9]; rfl)) ?_
  refine wpR_val (v := (Value.int .i64 0)) (w' := w1) rfl rfl rfl (x_assign (v := (Value.int .i64 0)) rfl rfl) ?_
  refine wpR_nil ?_
  refine wpC_seq ?_
  refine wpC_cut (fun ρ => ρ 1 = (Value.pointer (some (Addr.mk b9 0 none))) ∧ True) ⟨rfl, trivial⟩ ?_
  rintro ρ ⟨e1, -⟩
  refine wpC_region ?_
  refine wpR_val (v := (V23 (ByteArray.mk #[]) 0 0 0 false 0 false false 0 0 0 0 Sl.nil 0 0 0 0 false 0 0 0 0)) (w' := w1) rfl rfl rfl (x_build (qs := []) rfl (by rfl) (BD_24_  _)) ?_
  refine wpR_enter rfl rfl rfl (x_call (vs := [(V23 (ByteArray.mk #[]) 0 0 0 false 0 false false 0 0 0 0 Sl.nil 0 0 0 0 false 0 0 0 0)]) rfl rfl (mapl_cons rfl mapl_nil) Try.func34 NN_34 NB_34) (Calls.mono h ?_)
  rintro _ w2 ⟨r10, rfl, h⟩
  refine ⟨_, rfl, ?_⟩
  refine wpR_val (v := (Sl.v r10)) (w' := w2) rfl rfl rfl (x_assign (v := (Sl.v r10)) rfl rfl) ?_
  refine wpR_nil ?_
  refine wpC_seq ?_
  refine wpC_seq ?_
  refine wpC_cut (fun ρ => ρ 1 = (Value.pointer (some (Addr.mk b9 0 none))) ∧ ρ 3 = (Sl.v r10) ∧ True) ⟨e1, rfl, trivial⟩ ?_
  rintro ρ ⟨e1, e3, -⟩
  refine wpC_region ?_
  refine wpR_val (v := (Value.int .i64 0)) (w' := w2) rfl rfl rfl (x_assign (v := (Value.int .i64 0)) rfl rfl) ?_
  refine wpR_nil ?_
  refine wpC_block ?_
  obtain ⟨I11, μ11, hI11, hr11⟩ := h
  refine wpC_loop (fun (x : Int) ρ => ρ 4 = (Value.int .i64 x) ∧ ρ 1 = (Value.pointer (some (Addr.mk b9 0 none))) ∧ ρ 3 = (Sl.v r10) ∧ True) I11 μ11 0 ⟨rfl, e1, e3, trivial⟩ hI11 ?_
  rintro l11 ρ w3 ⟨e4, e1, e3, -⟩ h
  replace h := hr11 l11 w3 h
  clear hr11 hI11
  refine wpC_seq ?_
  refine wpC_seq ?_
  refine wpC_region ?_
  refine wpR_val (v := (Value.int .i64 l11)) (w' := w3) rfl rfl rfl (x_move (v := (Value.int .i64 l11)) rfl e4) ?_
  refine wpR_val (v := (Sl.v r10)) (w' := w3) rfl rfl rfl (x_move (v := (Sl.v r10)) rfl e3) ?_
  refine wpR_val (v := (Value.int .i64 (r10.len : Int))) (w' := w3) rfl rfl rfl (x_lenS (s := r10) rfl rfl isSliceT_58) ?_
  refine wpR_val (v := (Value.bool (decide (l11 < (r10.len : Int))))) (w' := w3) rfl rfl rfl (x_lss rfl rfl rfl) ?_
  refine wpR_nil ?_
  refine wpC_cond (b := decide (l11 < (r10.len : Int))) rfl (fun hc12 => ?_) (fun hc12 => ?_)
  · replace h := h.1 hc12
    refine wpC_skip ?_
    refine wpC_seq ?_
    refine wpC_block ?_
    refine wpC_seq ?_
    refine wpC_cut (fun ρ => ρ 1 = (Value.pointer (some (Addr.mk b9 0 none))) ∧ ρ 3 = (Sl.v r10) ∧ ρ 4 = (Value.int .i64 l11) ∧ True) ⟨e1, e3, e4, trivial⟩ ?_
    rintro ρ ⟨e1, e3, e4, -⟩
    obtain ⟨J14, h, hk⟩ := h
    refine wpC_drawJ (by kernel_rfl) (fun (x : Bool) ρ => ρ 40 = (Value.bool x) ∧ ρ 1 = (Value.pointer (some (Addr.mk b9 0 none))) ∧ ρ 3 = (Sl.v r10) ∧ ρ 4 = (Value.int .i64 l11) ∧ True) J14 ?_ ?_
    · clear hk
      unfold tk at h
      generalize w3.drew = w4 at h ⊢
      refine wpD_take (v := (Sl.v r10)) 0 (fun _ => True) rfl (by kernel_rfl) (by kernel_rfl) (by kernel_rfl) rfl rfl rfl trivial (fun w _ => (x_move (v := (Sl.v r10)) rfl e3)) ?_
      refine wpD_take (v := (Value.int .i64 l11)) 1 (fun _ => True) rfl (by kernel_rfl) (by kernel_rfl) (by kernel_rfl) rfl rfl rfl trivial (fun w _ => (x_move (v := (Value.int .i64 l11)) rfl e4)) ?_
      obtain ⟨q15, z15, r15, h⟩ := h
      generalize hp15 : z15.add ((l11 : Int).toNat * 5) = p15 at h
      refine wpD_take (v := (Value.pointer (some p15))) 2 (fun _ => True) rfl (by kernel_rfl) (by kernel_rfl) (by kernel_rfl) rfl rfl rfl trivial (fun w _ => ((x_indexAddr (s := r10) rfl rfl rfl ES_58 q15 r15).trans (by rw [hp15]))) ?_
      refine wpD_take (v := (Value.pointer (some (p15.add 0)))) 3 (fun _ => True) rfl (by kernel_rfl) (by kernel_rfl) (by kernel_rfl) rfl rfl rfl trivial (fun w _ => (x_fieldAddr rfl rfl FA_61_0)) ?_
      obtain ⟨x16, q16, h⟩ := h
      refine wpD_take (v := (Value.int .i64 x16)) 4 (fun w => w.cell? (p15.add 0) = some (Value.int .i64 x16)) rfl (by kernel_rfl) (by kernel_rfl) (by kernel_rfl) rfl rfl rfl q16 (fun w q16 => (x_load1 rfl rfl SH_3 q16)) ?_
      refine wpD_take (v := (Value.pointer (some ((Addr.mk b9 0 none).add 0)))) 5 (fun _ => True) rfl (by kernel_rfl) (by kernel_rfl) (by kernel_rfl) rfl rfl rfl trivial (fun w _ => (x_fieldAddr rfl e1 FA_44_0)) ?_
      obtain ⟨x17, q17, h⟩ := h
      refine wpD_take (v := (Value.int .i64 x17)) 6 (fun w => w.cell? ((Addr.mk b9 0 none).add 0) = some (Value.int .i64 x17)) rfl (by kernel_rfl) (by kernel_rfl) (by kernel_rfl) rfl rfl rfl q17 (fun w q17 => (x_load1 rfl rfl SH_3 q17)) ?_
      refine wpD_take (v := (Value.bool (decide (x16 = x17)))) 7 (fun _ => True) rfl (by kernel_rfl) (by kernel_rfl) (by kernel_rfl) rfl rfl rfl trivial (fun w _ => (x_eql rfl rfl rfl)) ?_
      refine wpD_take (v := (Value.bool (decide (x16 = x17)))) 8 (fun _ => True) rfl (by kernel_rfl) (by kernel_rfl) (by kernel_rfl) rfl rfl rfl trivial (fun w _ => (x_move (v := (Value.bool (decide (x16 = x17)))) rfl rfl)) ?_
      rcases Bool.eq_false_or_eq_true (decide (x16 = x17)) with hc18 | hc18
      · replace h := h.1 hc18
        refine wpD_take (v := (Sl.v r10)) 9 (fun _ => True) rfl (by kernel_rfl) (by kernel_rfl) (by kernel_rfl) (wantG rfl rfl rfl hc18) rfl rfl trivial (fun w _ => (x_move (v := (Sl.v r10)) rfl e3)) ?_
        refine wpD_take (v := (Value.int .i64 l11)) 10 (fun _ => True) rfl (by kernel_rfl) (by kernel_rfl) (by kernel_rfl) (wantG rfl rfl rfl hc18) rfl rfl trivial (fun w _ => (x_move (v := (Value.int .i64 l11)) rfl e4)) ?_
        obtain ⟨q19, z19, r19, h⟩ := h
        generalize hp19 : z19.add ((l11 : Int).toNat * 5) = p19 at h
        refine wpD_take (v := (Value.pointer (some p19))) 11 (fun _ => True) rfl (by kernel_rfl) (by kernel_rfl) (by kernel_rfl) (wantG rfl rfl rfl hc18) rfl rfl trivial (fun w _ => ((x_indexAddr (s := r10) rfl rfl rfl ES_58 q19 r19).trans (by rw [hp19]))) ?_
        refine wpD_take (v := (Value.pointer (some (p19.add 1)))) 12 (fun _ => True) rfl (by kernel_rfl) (by kernel_rfl) (by kernel_rfl) (wantG rfl rfl rfl hc18) rfl rfl trivial (fun w _ => (x_fieldAddr rfl rfl FA_61_1)) ?_
        obtain ⟨x20, q20, h⟩ := h
        refine wpD_take (v := (Value.int .i64 x20)) 13 (fun w => w.cell? (p19.add 1) = some (Value.int .i64 x20)) rfl (by kernel_rfl) (by kernel_rfl) (by kernel_rfl) (wantG rfl rfl rfl hc18) rfl rfl q20 (fun w q20 => (x_load1 rfl rfl SH_3 q20)) ?_
        refine wpD_take (v := (Value.pointer (some ((Addr.mk b9 0 none).add 1)))) 14 (fun _ => True) rfl (by kernel_rfl) (by kernel_rfl) (by kernel_rfl) (wantG rfl rfl rfl hc18) rfl rfl trivial (fun w _ => (x_fieldAddr rfl e1 FA_44_1)) ?_
        obtain ⟨x21, q21, h⟩ := h
        refine wpD_take (v := (Value.int .i64 x21)) 15 (fun w => w.cell? ((Addr.mk b9 0 none).add 1) = some (Value.int .i64 x21)) rfl (by kernel_rfl) (by kernel_rfl) (by kernel_rfl) (wantG rfl rfl rfl hc18) rfl rfl q21 (fun w q21 => (x_load1 rfl rfl SH_3 q21)) ?_
        refine wpD_take (v := (Value.bool (decide (x20 = x21)))) 16 (fun _ => True) rfl (by kernel_rfl) (by kernel_rfl) (by kernel_rfl) (wantG rfl rfl rfl hc18) rfl rfl trivial (fun w _ => (x_eql rfl rfl rfl)) ?_
        refine wpD_take (v := (Value.bool (decide (x20 = x21)))) 17 (fun _ => True) rfl (by kernel_rfl) (by kernel_rfl) (by kernel_rfl) rfl rfl rfl trivial (fun w _ => (x_pickT (v := (Value.bool (decide (x20 = x21)))) rfl rfl hc18 rfl)) ?_
        refine wpD_take (v := (Value.bool (decide (x20 = x21)))) 18 (fun _ => True) rfl (by kernel_rfl) (by kernel_rfl) (by kernel_rfl) rfl rfl rfl trivial (fun w _ => (x_move (v := (Value.bool (decide (x20 = x21)))) rfl rfl)) ?_
        rcases Bool.eq_false_or_eq_true (decide (x20 = x21)) with hc22 | hc22
        · replace h := h.1 hc22
          refine wpD_take (v := (Sl.v r10)) 19 (fun _ => True) rfl (by kernel_rfl) (by kernel_rfl) (by kernel_rfl) (wantG rfl rfl rfl hc22) rfl rfl trivial (fun w _ => (x_move (v := (Sl.v r10)) rfl e3)) ?_
          refine wpD_take (v := (Value.int .i64 l11)) 20 (fun _ => True) rfl (by kernel_rfl) (by kernel_rfl) (by kernel_rfl) (wantG rfl rfl rfl hc22) rfl rfl trivial (fun w _ => (x_move (v := (Value.int .i64 l11)) rfl e4)) ?_
          obtain ⟨q23, z23, r23, h⟩ := h
          generalize hp23 : z23.add ((l11 : Int).toNat * 5) = p23 at h
          refine wpD_take (v := (Value.pointer (some p23))) 21 (fun _ => True) rfl (by kernel_rfl) (by kernel_rfl) (by kernel_rfl) (wantG rfl rfl rfl hc22) rfl rfl trivial (fun w _ => ((x_indexAddr (s := r10) rfl rfl rfl ES_58 q23 r23).trans (by rw [hp23]))) ?_
          refine wpD_take (v := (Value.pointer (some (p23.add 2)))) 22 (fun _ => True) rfl (by kernel_rfl) (by kernel_rfl) (by kernel_rfl) (wantG rfl rfl rfl hc22) rfl rfl trivial (fun w _ => (x_fieldAddr rfl rfl FA_61_2)) ?_
          obtain ⟨x24, q24, h⟩ := h
          refine wpD_take (v := (Value.int .i64 x24)) 23 (fun w => w.cell? (p23.add 2) = some (Value.int .i64 x24)) rfl (by kernel_rfl) (by kernel_rfl) (by kernel_rfl) (wantG rfl rfl rfl hc22) rfl rfl q24 (fun w q24 => (x_load1 rfl rfl SH_3 q24)) ?_
          refine wpD_take (v := (Value.pointer (some ((Addr.mk b9 0 none).add 2)))) 24 (fun _ => True) rfl (by kernel_rfl) (by kernel_rfl) (by kernel_rfl) (wantG rfl rfl rfl hc22) rfl rfl trivial (fun w _ => (x_fieldAddr rfl e1 FA_44_2)) ?_
          obtain ⟨x25, q25, h⟩ := h
          refine wpD_take (v := (Value.int .i64 x25)) 25 (fun w => w.cell? ((Addr.mk b9 0 none).add 2) = some (Value.int .i64 x25)) rfl (by kernel_rfl) (by kernel_rfl) (by kernel_rfl) (wantG rfl rfl rfl hc22) rfl rfl q25 (fun w q25 => (x_load1 rfl rfl SH_3 q25)) ?_
          refine wpD_take (v := (Value.bool (decide (x24 = x25)))) 26 (fun _ => True) rfl (by kernel_rfl) (by kernel_rfl) (by kernel_rfl) (wantG rfl rfl rfl hc22) rfl rfl trivial (fun w _ => (x_eql rfl rfl rfl)) ?_
          refine wpD_take (v := (Value.bool (decide (x24 = x25)))) 27 (fun _ => True) rfl (by kernel_rfl) (by kernel_rfl) (by kernel_rfl) rfl rfl rfl trivial (fun w _ => (x_pickT (v := (Value.bool (decide (x24 = x25)))) rfl rfl hc22 rfl)) ?_
          exact wpD_done (by kernel_rfl) ⟨decide (x24 = x25), ⟨rfl, e1, e3, e4, trivial⟩, h⟩
        · replace h := h.2 hc22
          refine wpD_pass 19 rfl (by kernel_rfl) (by kernel_rfl) (by kernel_rfl) (wantN rfl rfl rfl hc22) rfl rfl ?_
          refine wpD_pass 20 rfl (by kernel_rfl) (by kernel_rfl) (by kernel_rfl) (wantN rfl rfl rfl hc22) rfl rfl ?_
          refine wpD_pass 21 rfl (by kernel_rfl) (by kernel_rfl) (by kernel_rfl) (wantN rfl rfl rfl hc22) rfl rfl ?_
          refine wpD_pass 22 rfl (by kernel_rfl) (by kernel_rfl) (by kernel_rfl) (wantN rfl rfl rfl hc22) rfl rfl ?_
          refine wpD_pass 23 rfl (by kernel_rfl) (by kernel_rfl) (by kernel_rfl) (wantN rfl rfl rfl hc22) rfl rfl ?_
          refine wpD_pass 24 rfl (by kernel_rfl) (by kernel_rfl) (by kernel_rfl) (wantN rfl rfl rfl hc22) rfl rfl ?_
          refine wpD_pass 25 rfl (by kernel_rfl) (by kernel_rfl) (by kernel_rfl) (wantN rfl rfl rfl hc22) rfl rfl ?_
          refine wpD_pass 26 rfl (by kernel_rfl) (by kernel_rfl) (by kernel_rfl) (wantN rfl rfl rfl hc22) rfl rfl ?_
          refine wpD_take (v := (Value.bool false)) 27 (fun _ => True) rfl (by kernel_rfl) (by kernel_rfl) (by kernel_rfl) rfl rfl rfl trivial (fun w _ => (x_pickF (v := (Value.bool false)) rfl rfl hc22 rfl)) ?_
          exact wpD_done (by kernel_rfl) ⟨false, ⟨rfl, e1, e3, e4, trivial⟩, h⟩
      · replace h := h.2 hc18
        refine wpD_pass 9 rfl (by kernel_rfl) (by kernel_rfl) (by kernel_rfl) (wantN rfl rfl rfl hc18) rfl rfl ?_
        refine wpD_pass 10 rfl (by kernel_rfl) (by kernel_rfl) (by kernel_rfl) (wantN rfl rfl rfl hc18) rfl rfl ?_
        refine wpD_pass 11 rfl (by kernel_rfl) (by kernel_rfl) (by kernel_rfl) (wantN rfl rfl rfl hc18) rfl rfl ?_
        refine wpD_pass 12 rfl (by kernel_rfl) (by kernel_rfl) (by kernel_rfl) (wantN rfl rfl rfl hc18) rfl rfl ?_
        refine wpD_pass 13 rfl (by kernel_rfl) (by kernel_rfl) (by kernel_rfl) (wantN rfl rfl rfl hc18) rfl rfl ?_
        refine wpD_pass 14 rfl (by kernel_rfl) (by kernel_rfl) (by kernel_rfl) (wantN rfl rfl rfl hc18) rfl rfl ?_
        refine wpD_pass 15 rfl (by kernel_rfl) (by kernel_rfl) (by kernel_rfl) (wantN rfl rfl rfl hc18) rfl rfl ?_
        refine wpD_pass 16 rfl (by kernel_rfl) (by kernel_rfl) (by kernel_rfl) (wantN rfl rfl rfl hc18) rfl rfl ?_
        refine wpD_take (v := (Value.bool false)) 17 (fun _ => True) rfl (by kernel_rfl) (by kernel_rfl) (by kernel_rfl) rfl rfl rfl trivial (fun w _ => (x_pickF (v := (Value.bool false)) rfl rfl hc18 rfl)) ?_
        refine wpD_take (v := (Value.bool false)) 18 (fun _ => True) rfl (by kernel_rfl) (by kernel_rfl) (by kernel_rfl) rfl rfl rfl trivial (fun w _ => (x_move (v := (Value.bool false)) rfl rfl)) ?_
        refine wpD_pass 19 rfl (by kernel_rfl) (by kernel_rfl) (by kernel_rfl) (wantN rfl rfl rfl rfl) rfl rfl ?_
        refine wpD_pass 20 rfl (by kernel_rfl) (by kernel_rfl) (by kernel_rfl) (wantN rfl rfl rfl rfl) rfl rfl ?_
        refine wpD_pass 21 rfl (by kernel_rfl) (by kernel_rfl) (by kernel_rfl) (wantN rfl rfl rfl rfl) rfl rfl ?_
        refine wpD_pass 22 rfl (by kernel_rfl) (by kernel_rfl) (by kernel_rfl) (wantN rfl rfl rfl rfl) rfl rfl ?_
        refine wpD_pass 23 rfl (by kernel_rfl) (by kernel_rfl) (by kernel_rfl) (wantN rfl rfl rfl rfl) rfl rfl ?_
        refine wpD_pass 24 rfl (by kernel_rfl) (by kernel_rfl) (by kernel_rfl) (wantN rfl rfl rfl rfl) rfl rfl ?_
        refine wpD_pass 25 rfl (by kernel_rfl) (by kernel_rfl) (by kernel_rfl) (wantN rfl rfl rfl rfl) rfl rfl ?_
        refine wpD_pass 26 rfl (by kernel_rfl) (by kernel_rfl) (by kernel_rfl) (wantN rfl rfl rfl rfl) rfl rfl ?_
        refine wpD_take (v := (Value.bool false)) 27 (fun _ => True) rfl (by kernel_rfl) (by kernel_rfl) (by kernel_rfl) rfl rfl rfl trivial (fun w _ => (x_pickF (v := (Value.bool false)) rfl rfl rfl rfl)) ?_
        exact wpD_done (by kernel_rfl) ⟨false, ⟨rfl, e1, e3, e4, trivial⟩, h⟩
    clear h
    rintro l26 ρ w5 ⟨e40, e1, e3, e4, -⟩ h
    replace h := hk l26 w5 h
    clear hk
    refine wpC_cond (b := l26) e40 (fun hc27 => ?_) (fun hc27 => ?_)
    · replace h := h.1 hc27
      refine wpC_seq ?_
      refine wpC_region ?_
      refine wpR_val (v := (Sl.v r10)) (w' := w5) rfl rfl rfl (x_move (v := (Sl.v r10)) rfl e3) ?_
      refine wpR_val (v := (Value.int .i64 l11)) (w' := w5) rfl rfl rfl (x_move (v := (Value.int .i64 l11)) rfl e4) ?_
      obtain ⟨q28, z28, r28, h⟩ := h
      generalize hp28 : z28.add ((l11 : Int).toNat * 5) = p28 at h
      refine wpR_val (v := (Value.pointer (some p28))) (w' := w5) rfl rfl rfl ((x_indexAddr (s := r10) rfl rfl rfl ES_58 q28 r28).trans (by rw [hp28])) ?_
      refine wpR_val (v := (Value.pointer (some (p28.add 3)))) (w' := w5) rfl rfl rfl (x_fieldAddr rfl rfl FA_61_3) ?_
      obtain ⟨x29, q29, h⟩ := h
      refine wpR_val (v := (Value.int .i64 x29)) (w' := w5) rfl rfl rfl (x_load1 rfl rfl SH_3 q29) ?_
      refine wpR_val (v := (Value.int .i64 x29)) (w' := w5) rfl rfl rfl (x_assign (v := (Value.int .i64 x29)) rfl rfl) ?_
      refine wpR_nil ?_
      refine wpC_ret ?_
      exact ⟨.inl rfl, fun a ha => ⟨_, results_rep1 rfl ha rfl, x29, rfl, h⟩⟩
    · replace h := h.2 hc27
      refine wpC_skip ?_
      refine wpC_region ?_
      refine wpR_val (v := (Value.int .i64 l11)) (w' := w5) rfl rfl rfl (x_move (v := (Value.int .i64 l11)) rfl e4) ?_
      refine wpR_val (v := (Value.int .i64 (IntKind.i64.wrap (l11 + 1)))) (w' := w5) rfl rfl rfl (x_add rfl rfl rfl) ?_
      refine wpR_val (v := (Value.int .i64 (IntKind.i64.wrap (l11 + 1)))) (w' := w5) rfl rfl rfl (x_assign (v := (Value.int .i64 (IntKind.i64.wrap (l11 + 1)))) rfl rfl) ?_
      refine wpR_nil ?_
      exact ⟨IntKind.i64.wrap (l11 + 1), ⟨rfl, e1, e3, trivial⟩, h⟩
  · replace h := h.2 hc12
    refine wpC_exit ?_
    refine wpC_seq ?_
    refine wpC_cut (fun ρ => True) trivial ?_
    rintro ρ -
    refine wpC_region ?_
    refine wpR_val (v := (Value.int .i64 0)) (w' := w3) rfl rfl rfl (x_assign (v := (Value.int .i64 0)) rfl rfl) ?_
    refine wpR_nil ?_
    refine wpC_ret ?_
    exact ⟨.inl rfl, fun a ha => ⟨_, results_rep1 rfl ha rfl, 0, rfl, h⟩⟩

/-- lex.Word -/
def F53 (p0 : ByteArray) (w0 : World) (K : Bool → World → Prop) : Prop :=
  jn (fun J9 => cnd (beqS p0 (ByteArray.mk #[]))
    (
    J9 true w0
    )
    (
    rn Try.prog (Instr.index 9 (Value.string p0) (Value.int .i64 0)) (fun (r : Int) => (Value.int .u8 r)) w0 fun r11 w1 =>
    callC Try.prog 60 #[(Value.int .u8 r11)] (fun (r : Bool) => (Value.bool r)) w1 fun r12 w2 =>
    J9 (!r12) w2
    ))
  fun c13 w3 =>
  cnd (c13 || (decide (20 < (p0.size : Int))))
    (
    K false w3
    )
    (
    callC Try.prog 61 #[(Value.string p0), (Value.func (.func 62) #[] #[])] (fun (r : Int) => (Value.int .i64 r)) w3 fun r17 w4 =>
    K (decide (r17 = (p0.size : Int))) w4
    )
set_option maxRecDepth 100000 in
theorem D53 (p0 : ByteArray) (w0 : World) (K : Bool → World → Prop) (h : F53 p0 w0 K) : callC Try.prog 53 #[(Value.string p0)] (fun (r : Bool) => (Value.bool r)) w0 K := by
  unfold F53 at h
  refine calls_of_wpC Try.func53 rfl 21 rfl (by simp) ?_
  intro ρ hρ
  have e0 : ρ 0 = (Value.string p0) := hρ 0
  clear hρ
  refine wpC_seq ?_
  refine wpC_region ?_
  refine wpR_val (v := (Value.bool false)) (w' := w0) rfl rfl rfl (x_assign (v := (Value.bool false)) rfl rfl) ?_
  refine wpR_nil ?_
  refine wpC_seq ?_
  refine wpC_seq ?_
  refine wpC_cut (fun ρ => ρ 0 = (Value.string p0) ∧ True) ⟨e0, trivial⟩ ?_
  rintro ρ ⟨e0, -⟩
  refine wpC_region ?_
  refine wpR_val (v := (Value.string p0)) (w' := w0) rfl rfl rfl (x_move (v := (Value.string p0)) rfl e0) ?_
  refine wpR_val (v := (Value.bool (beqS p0 (ByteArray.mk #[])))) (w' := w0) rfl rfl rfl (x_eqlS rfl rfl rfl) ?_
  refine wpR_val (v := (Value.bool (beqS p0 (ByteArray.mk #[])))) (w' := w0) rfl rfl rfl (x_move (v := (Value.bool (beqS p0 (ByteArray.mk #[])))) rfl rfl) ?_
  obtain ⟨J9, h, hk⟩ := h
  refine wpR_joinJ 5 (fun x ρ => ρ 10 = Value.bool x ∧ ρ 0 = (Value.string p0) ∧ True) (J9) ?_ ?_
  · clear hk
    rcases Bool.eq_false_or_eq_true (beqS p0 (ByteArray.mk #[])) with hc10 | hc10
    · replace h := h.1 hc10
      refine wpR_pass (wantN rfl rfl rfl hc10) rfl rfl ?_
      refine wpR_pass (wantN rfl rfl rfl hc10) rfl rfl ?_
      refine wpR_pass (wantN rfl rfl rfl hc10) rfl rfl ?_
      refine wpR_pass (wantN rfl rfl rfl hc10) rfl rfl ?_
      refine wpR_val (v := (Value.bool true)) (w' := w0) rfl rfl rfl (x_pickT (v := (Value.bool true)) rfl rfl hc10 rfl) ?_
      refine wpR_nil ?_
      exact ⟨true, ⟨rfl, e0, trivial⟩, h⟩
    · replace h := h.2 hc10
      refine wpR_val (v := (Value.string p0)) (w' := w0) (wantG rfl rfl rfl hc10) rfl rfl (x_move (v := (Value.string p0)) rfl e0) ?_
      obtain ⟨r11, w1, q11, h⟩ := h
      refine wpR_val (v := (Value.int .u8 r11)) (w' := w1) (wantG rfl rfl rfl hc10) rfl rfl (x_index rfl rfl rfl q11) ?_
      refine wpR_enter (wantG rfl rfl rfl hc10) rfl rfl (x_call (vs := [(Value.int .u8 r11)]) rfl rfl (mapl_cons rfl mapl_nil) Try.func60 NN_60 NB_60) (Calls.mono h ?_)
      rintro _ w2 ⟨r12, rfl, h⟩
      refine ⟨_, rfl, ?_⟩
      refine wpR_val (v := (Value.bool (!r12))) (w' := w2) (wantG rfl rfl rfl hc10) rfl rfl (x_not rfl rfl) ?_
      refine wpR_val (v := (Value.bool (!r12))) (w' := w2) rfl rfl rfl (x_pickF (v := (Value.bool (!r12))) rfl rfl hc10 rfl) ?_
      refine wpR_nil ?_
      exact ⟨!r12, ⟨rfl, e0, trivial⟩, h⟩
  clear h
  rintro c13 ρ w3 ⟨e10, e0, -⟩ h
  replace h := hk c13 w3 h
  clear hk
  refine wpR_val (v := (Value.bool c13)) (w' := w3) rfl rfl rfl (x_move (v := (Value.bool c13)) rfl e10) ?_
  refine wpR_joinJ 4 (fun (_ : Unit) ρ => ρ 15 = Value.bool (c13 || (decide (20 < (p0.size : Int)))) ∧ ρ 0 = (Value.string p0) ∧ True) (fun _ w => w3 = w) ?_ ?_
  · clear h
    rcases Bool.eq_false_or_eq_true (c13) with hc15 | hc15
    · skip
      refine wpR_pass (wantN rfl rfl rfl hc15) rfl rfl ?_
      refine wpR_pass (wantN rfl rfl rfl hc15) rfl rfl ?_
      refine wpR_pass (wantN rfl rfl rfl hc15) rfl rfl ?_
      refine wpR_val (v := (Value.bool true)) (w' := w3) rfl rfl rfl (x_pickT (v := (Value.bool true)) rfl rfl hc15 rfl) ?_
      refine wpR_nil ?_
      exact ⟨(), ⟨(by rw [hc15]; rfl), e0, trivial⟩, rfl⟩
    · skip
      refine wpR_val (v := (Value.string p0)) (w' := w3) (wantG rfl rfl rfl hc15) rfl rfl (x_move (v := (Value.string p0)) rfl e0) ?_
      refine wpR_val (v := (Value.int .i64 (p0.size : Int))) (w' := w3) (wantG rfl rfl rfl hc15) rfl rfl (x_lenStr rfl rfl isStrT_9) ?_
      refine wpR_val (v := (Value.bool (decide (20 < (p0.size : Int))))) (w' := w3) (wantG rfl rfl rfl hc15) rfl rfl (x_gtr rfl rfl rfl) ?_
      refine wpR_val (v := (Value.bool (decide (20 < (p0.size : Int))))) (w' := w3) rfl rfl rfl (x_pickF (v := (Value.bool (decide (20 < (p0.size : Int))))) rfl rfl hc15 rfl) ?_
      refine wpR_nil ?_
      exact ⟨(), ⟨(by rw [hc15]; rfl), e0, trivial⟩, rfl⟩
  rintro _ ρ wj ⟨e15, e0, -⟩ rfl
  refine wpR_nil ?_
  refine wpC_cond (b := c13 || (decide (20 < (p0.size : Int)))) e15 (fun hc16 => ?_) (fun hc16 => ?_)
  · replace h := h.1 hc16
    refine wpC_seq ?_
    refine wpC_region ?_
    refine wpR_val (v := (Value.bool false)) (w' := w3) rfl rfl rfl (x_assign (v := (Value.bool false)) rfl rfl) ?_
    refine wpR_nil ?_
    refine wpC_ret ?_
    exact ⟨.inl rfl, fun a ha => ⟨_, results_rep1 rfl ha rfl, false, rfl, h⟩⟩
  · replace h := h.2 hc16
    refine wpC_skip ?_
    refine wpC_seq ?_
    refine wpC_region ?_
    refine wpR_val (v := (Value.string p0)) (w' := w3) rfl rfl rfl (x_move (v := (Value.string p0)) rfl e0) ?_
    refine wpR_enter rfl rfl rfl (x_call (vs := [(Value.string p0), (Value.func (.func 62) #[] #[])]) rfl rfl (mapl_cons rfl (mapl_cons rfl mapl_nil)) Try.func61 NN_61 NB_61) (Calls.mono h ?_)
    rintro _ w4 ⟨r17, rfl, h⟩
    refine ⟨_, rfl, ?_⟩
    refine wpR_val (v := (Value.string p0)) (w' := w4) rfl rfl rfl (x_move (v := (Value.string p0)) rfl e0) ?_
    refine wpR_val (v := (Value.int .i64 (p0.size : Int))) (w' := w4) rfl rfl rfl (x_lenStr rfl rfl isStrT_9) ?_
    refine wpR_val (v := (Value.bool (decide (r17 = (p0.size : Int))))) (w' := w4) rfl rfl rfl (x_eql rfl rfl rfl) ?_
    refine wpR_val (v := (Value.bool (decide (r17 = (p0.size : Int))))) (w' := w4) rfl rfl rfl (x_assign (v := (Value.bool (decide (r17 = (p0.size : Int))))) rfl rfl) ?_
    refine wpR_nil ?_
    refine wpC_ret ?_
    exact ⟨.inl rfl, fun a ha => ⟨_, results_rep1 rfl ha rfl, decide (r17 = (p0.size : Int)), rfl, h⟩⟩

/-- syntax.Right$1 -/
def F54 (p0 : ByteArray) (w0 : World) (K : Bool → World → Prop) : Prop :=
  callC Try.prog 53 #[(Value.string p0)] (fun (r : Bool) => (Value.bool r)) w0 fun r9 w1 =>
  K (!r9) w1
set_option maxRecDepth 100000 in
theorem D54 (p0 : ByteArray) (w0 : World) (K : Bool → World → Prop) (h : F54 p0 w0 K) : callC Try.prog 54 #[(Value.string p0)] (fun (r : Bool) => (Value.bool r)) w0 K := by
  unfold F54 at h
  refine calls_of_wpC Try.func54 rfl 6 rfl (by simp) ?_
  intro ρ hρ
  have e0 : ρ 0 = (Value.string p0) := hρ 0
  clear hρ
  refine wpC_seq ?_
  refine wpC_region ?_
  refine wpR_val (v := (Value.bool false)) (w' := w0) rfl rfl rfl (x_assign (v := (Value.bool false)) rfl rfl) ?_
  refine wpR_nil ?_
  refine wpC_seq ?_
  refine wpC_cut (fun ρ => ρ 0 = (Value.string p0) ∧ True) ⟨e0, trivial⟩ ?_
  rintro ρ ⟨e0, -⟩
  refine wpC_region ?_
  refine wpR_val (v := (Value.string p0)) (w' := w0) rfl rfl rfl (x_move (v := (Value.string p0)) rfl e0) ?_
  refine wpR_enter rfl rfl rfl (x_call (vs := [(Value.string p0)]) rfl rfl (mapl_cons rfl mapl_nil) Try.func53 NN_53 NB_53) (Calls.mono h ?_)
  rintro _ w1 ⟨r9, rfl, h⟩
  refine ⟨_, rfl, ?_⟩
  refine wpR_val (v := (Value.bool (!r9))) (w' := w1) rfl rfl rfl (x_not rfl rfl) ?_
  refine wpR_val (v := (Value.bool (!r9))) (w' := w1) rfl rfl rfl (x_assign (v := (Value.bool (!r9))) rfl rfl) ?_
  refine wpR_nil ?_
  refine wpC_ret ?_
  exact ⟨.inl rfl, fun a ha => ⟨_, results_rep1 rfl ha rfl, !r9, rfl, h⟩⟩

/-- slices.Index[[]string,string] -/
def F55 (p0 : Sl) (p1 : ByteArray) (w0 : World) (K : Int → World → Prop) : Prop :=
  lp (fun (next9 : Int → World → Prop) l9 w1 =>
    cnd (decide (l9 < (p0.len : Int)))
      (
      ix p0 l9 1 fun p11 =>
      ld Value.string p11 w1 fun x12 =>
      cnd (beqS p1 x12)
        (
        K l9 w1
        )
        (
        next9 (IntKind.i64.wrap (l9 + 1)) w1
        )
      )
      (
      K (-1) w1
      )
  ) 0 w0
set_option maxRecDepth 100000 in
theorem D55 (p0 : Sl) (p1 : ByteArray) (w0 : World) (K : Int → World → Prop) (h : F55 p0 p1 w0 K) : callC Try.prog 55 #[(Sl.v p0), (Value.string p1)] (fun (r : Int) => (Value.int .i64 r)) w0 K := by
  unfold F55 at h
  refine calls_of_wpC Try.func55 rfl 19 rfl (by simp) ?_
  intro ρ hρ
  have e0 : ρ 0 = (Sl.v p0) := hρ 0
  have e1 : ρ 1 = (Value.string p1) := hρ 1
  clear hρ
  refine wpC_seq ?_
  refine wpC_region ?_
  refine wpR_val (v := (Value.int .i64 0)) (w' := w0) rfl rfl rfl (x_assign (v := (Value.int .i64 0)) rfl rfl) ?_
  refine wpR_nil ?_
  refine wpC_seq ?_
  refine wpC_seq ?_
  refine wpC_cut (fun ρ => ρ 0 = (Sl.v p0) ∧ ρ 1 = (Value.string p1) ∧ True) ⟨e0, e1, trivial⟩ ?_
  rintro ρ ⟨e0, e1, -⟩
  refine wpC_region ?_
  refine wpR_val (v := (Sl.v p0)) (w' := w0) rfl rfl rfl (x_move (v := (Sl.v p0)) rfl e0) ?_
  refine wpR_val (v := (Value.int .i64 (p0.len : Int))) (w' := w0) rfl rfl rfl (x_lenS (s := p0) rfl rfl isSliceT_22) ?_
  refine wpR_val (v := (Value.int .i64 0)) (w' := w0) rfl rfl rfl (x_move (v := (Value.int .i64 0)) rfl rfl) ?_
  refine wpR_nil ?_
  refine wpC_block ?_
  obtain ⟨I9, μ9, hI9, hr9⟩ := h
  refine wpC_loop (fun (x : Int) ρ => ρ 8 = (Value.int .i64 x) ∧ ρ 0 = (Sl.v p0) ∧ ρ 1 = (Value.string p1) ∧ ρ 7 = (Value.int .i64 (p0.len : Int)) ∧ True) I9 μ9 0 ⟨rfl, e0, e1, rfl, trivial⟩ hI9 ?_
  rintro l9 ρ w1 ⟨e8, e0, e1, e7, -⟩ h
  replace h := hr9 l9 w1 h
  clear hr9 hI9
  refine wpC_seq ?_
  refine wpC_region ?_
  refine wpR_val (v := (Value.bool (decide (l9 < (p0.len : Int))))) (w' := w1) rfl rfl rfl (x_lss rfl e8 e7) ?_
  refine wpR_nil ?_
  refine wpC_seq ?_
  refine wpC_cond (b := decide (l9 < (p0.len : Int))) rfl (fun hc10 => ?_) (fun hc10 => ?_)
  · replace h := h.1 hc10
    refine wpC_skip ?_
    refine wpC_seq ?_
    refine wpC_block ?_
    refine wpC_seq ?_
    refine wpC_cut (fun ρ => ρ 0 = (Sl.v p0) ∧ ρ 1 = (Value.string p1) ∧ ρ 7 = (Value.int .i64 (p0.len : Int)) ∧ ρ 8 = (Value.int .i64 l9) ∧ True) ⟨e0, e1, e7, e8, trivial⟩ ?_
    rintro ρ ⟨e0, e1, e7, e8, -⟩
    refine wpC_region ?_
    refine wpR_val (v := (Value.int .i64 l9)) (w' := w1) rfl rfl rfl (x_move (v := (Value.int .i64 l9)) rfl e8) ?_
    refine wpR_val (v := (Value.int .i64 l9)) (w' := w1) rfl rfl rfl (x_assign (v := (Value.int .i64 l9)) rfl rfl) ?_
    refine wpR_nil ?_
    refine wpC_seq ?_
    refine wpC_cut (fun ρ => ρ 0 = (Sl.v p0) ∧ ρ 1 = (Value.string p1) ∧ ρ 5 = (Value.int .i64 l9) ∧ ρ 7 = (Value.int .i64 (p0.len : Int)) ∧ ρ 8 = (Value.int .i64 l9) ∧ True) ⟨e0, e1, rfl, e7, e8, trivial⟩ ?_
    rintro ρ ⟨e0, e1, e5, e7, e8, -⟩
    refine wpC_region ?_
    refine wpR_val (v := (Value.string p1)) (w' := w1) rfl rfl rfl (x_move (v := (Value.string p1)) rfl e1) ?_
    refine wpR_val (v := (Sl.v p0)) (w' := w1) rfl rfl rfl (x_move (v := (Sl.v p0)) rfl e0) ?_
    refine wpR_val (v := (Value.int .i64 l9)) (w' := w1) rfl rfl rfl (x_move (v := (Value.int .i64 l9)) rfl e5) ?_
    obtain ⟨q11, z11, r11, h⟩ := h
    generalize hp11 : z11.add ((l9 : Int).toNat * 1) = p11 at h
    refine wpR_val (v := (Value.pointer (some p11))) (w' := w1) rfl rfl rfl ((x_indexAddr (s := p0) rfl rfl rfl ES_22 q11 r11).trans (by rw [hp11])) ?_
    obtain ⟨x12, q12, h⟩ := h
    refine wpR_val (v := (Value.string x12)) (w' := w1) rfl rfl rfl (x_load1 rfl rfl SH_9 q12) ?_
    refine wpR_val (v := (Value.bool (beqS p1 x12))) (w' := w1) rfl rfl rfl (x_eqlS rfl rfl rfl) ?_
    refine wpR_nil ?_
    refine wpC_cond (b := beqS p1 x12) rfl (fun hc13 => ?_) (fun hc13 => ?_)
    · replace h := h.1 hc13
      refine wpC_seq ?_
      refine wpC_cut (fun ρ => ρ 5 = (Value.int .i64 l9) ∧ True) ⟨e5, trivial⟩ ?_
      rintro ρ ⟨e5, -⟩
      refine wpC_region ?_
      refine wpR_val (v := (Value.int .i64 l9)) (w' := w1) rfl rfl rfl (x_move (v := (Value.int .i64 l9)) rfl e5) ?_
      refine wpR_val (v := (Value.int .i64 l9)) (w' := w1) rfl rfl rfl (x_assign (v := (Value.int .i64 l9)) rfl rfl) ?_
      refine wpR_nil ?_
      refine wpC_ret ?_
      exact ⟨.inl rfl, fun a ha => ⟨_, results_rep1 rfl ha rfl, l9, rfl, h⟩⟩
    · replace h := h.2 hc13
      refine wpC_skip ?_
      refine wpC_cut (fun ρ => ρ 0 = (Sl.v p0) ∧ ρ 1 = (Value.string p1) ∧ ρ 7 = (Value.int .i64 (p0.len : Int)) ∧ ρ 8 = (Value.int .i64 l9) ∧ True) ⟨e0, e1, e7, e8, trivial⟩ ?_
      rintro ρ ⟨e0, e1, e7, e8, -⟩
      refine wpC_region ?_
      refine wpR_val (v := (Value.int .i64 (IntKind.i64.wrap (l9 + 1)))) (w' := w1) rfl rfl rfl (x_add rfl e8 rfl) ?_
      refine wpR_val (v := (Value.int .i64 (IntKind.i64.wrap (l9 + 1)))) (w' := w1) rfl rfl rfl (x_move (v := (Value.int .i64 (IntKind.i64.wrap (l9 + 1)))) rfl rfl) ?_
      refine wpR_nil ?_
      exact ⟨IntKind.i64.wrap (l9 + 1), ⟨rfl, e0, e1, e7, trivial⟩, h⟩
  · replace h := h.2 hc10
    refine wpC_exit ?_
    refine wpC_seq ?_
    refine wpC_cut (fun ρ => True) trivial ?_
    rintro ρ -
    refine wpC_region ?_
    refine wpR_val (v := (Value.int .i64 (-1))) (w' := w1) rfl rfl rfl (x_assign (v := (Value.int .i64 (-1))) rfl rfl) ?_
    refine wpR_nil ?_
    refine wpC_ret ?_
    exact ⟨.inl rfl, fun a ha => ⟨_, results_rep1 rfl ha rfl, (-1), rfl, h⟩⟩

/-- slices.IndexFunc[[]string,string] -/
def F56 (p0 : Sl) (p1 : Value) (w0 : World) (K : Int → World → Prop) : Prop :=
  lp (fun (next9 : Int → World → Prop) l9 w1 =>
    cnd (decide (l9 < (p0.len : Int)))
      (
      ix p0 l9 1 fun p11 =>
      ld Value.string p11 w1 fun x12 =>
      cv Try.prog p1 [(Value.string x12)] (fun (r : Bool) => (Value.bool r)) w1 fun r13 w2 =>
      cnd (r13)
        (
        K l9 w2
        )
        (
        next9 (IntKind.i64.wrap (l9 + 1)) w2
        )
      )
      (
      K (-1) w1
      )
  ) 0 w0
set_option maxRecDepth 100000 in
theorem D56 (p0 : Sl) (p1 : Value) (w0 : World) (K : Int → World → Prop) (h : F56 p0 p1 w0 K) : callC Try.prog 56 #[(Sl.v p0), p1] (fun (r : Int) => (Value.int .i64 r)) w0 K := by
  unfold F56 at h
  refine calls_of_wpC Try.func56 rfl 19 rfl (by simp) ?_
  intro ρ hρ
  have e0 : ρ 0 = (Sl.v p0) := hρ 0
  have e1 : ρ 1 = p1 := hρ 1
  clear hρ
  refine wpC_seq ?_
  refine wpC_region ?_
  refine wpR_val (v := (Value.int .i64 0)) (w' := w0) rfl rfl rfl (x_assign (v := (Value.int .i64 0)) rfl rfl) ?_
  refine wpR_nil ?_
  refine wpC_seq ?_
  refine wpC_seq ?_
  refine wpC_cut (fun ρ => ρ 0 = (Sl.v p0) ∧ ρ 1 = p1 ∧ True) ⟨e0, e1, trivial⟩ ?_
  rintro ρ ⟨e0, e1, -⟩
  refine wpC_region ?_
  refine wpR_val (v := (Sl.v p0)) (w' := w0) rfl rfl rfl (x_move (v := (Sl.v p0)) rfl e0) ?_
  refine wpR_val (v := (Value.int .i64 (p0.len : Int))) (w' := w0) rfl rfl rfl (x_lenS (s := p0) rfl rfl isSliceT_22) ?_
  refine wpR_val (v := (Value.int .i64 0)) (w' := w0) rfl rfl rfl (x_move (v := (Value.int .i64 0)) rfl rfl) ?_
  refine wpR_nil ?_
  refine wpC_block ?_
  obtain ⟨I9, μ9, hI9, hr9⟩ := h
  refine wpC_loop (fun (x : Int) ρ => ρ 8 = (Value.int .i64 x) ∧ ρ 0 = (Sl.v p0) ∧ ρ 1 = p1 ∧ ρ 7 = (Value.int .i64 (p0.len : Int)) ∧ True) I9 μ9 0 ⟨rfl, e0, e1, rfl, trivial⟩ hI9 ?_
  rintro l9 ρ w1 ⟨e8, e0, e1, e7, -⟩ h
  replace h := hr9 l9 w1 h
  clear hr9 hI9
  refine wpC_seq ?_
  refine wpC_region ?_
  refine wpR_val (v := (Value.bool (decide (l9 < (p0.len : Int))))) (w' := w1) rfl rfl rfl (x_lss rfl e8 e7) ?_
  refine wpR_nil ?_
  refine wpC_seq ?_
  refine wpC_cond (b := decide (l9 < (p0.len : Int))) rfl (fun hc10 => ?_) (fun hc10 => ?_)
  · replace h := h.1 hc10
    refine wpC_skip ?_
    refine wpC_seq ?_
    refine wpC_block ?_
    refine wpC_seq ?_
    refine wpC_cut (fun ρ => ρ 0 = (Sl.v p0) ∧ ρ 1 = p1 ∧ ρ 7 = (Value.int .i64 (p0.len : Int)) ∧ ρ 8 = (Value.int .i64 l9) ∧ True) ⟨e0, e1, e7, e8, trivial⟩ ?_
    rintro ρ ⟨e0, e1, e7, e8, -⟩
    refine wpC_region ?_
    refine wpR_val (v := (Value.int .i64 l9)) (w' := w1) rfl rfl rfl (x_move (v := (Value.int .i64 l9)) rfl e8) ?_
    refine wpR_val (v := (Value.int .i64 l9)) (w' := w1) rfl rfl rfl (x_assign (v := (Value.int .i64 l9)) rfl rfl) ?_
    refine wpR_nil ?_
    refine wpC_seq ?_
    refine wpC_cut (fun ρ => ρ 0 = (Sl.v p0) ∧ ρ 1 = p1 ∧ ρ 5 = (Value.int .i64 l9) ∧ ρ 7 = (Value.int .i64 (p0.len : Int)) ∧ ρ 8 = (Value.int .i64 l9) ∧ True) ⟨e0, e1, rfl, e7, e8, trivial⟩ ?_
    rintro ρ ⟨e0, e1, e5, e7, e8, -⟩
    refine wpC_region ?_
    refine wpR_val (v := p1) (w' := w1) rfl rfl rfl (x_move (v := p1) rfl e1) ?_
    refine wpR_val (v := (Sl.v p0)) (w' := w1) rfl rfl rfl (x_move (v := (Sl.v p0)) rfl e0) ?_
    refine wpR_val (v := (Value.int .i64 l9)) (w' := w1) rfl rfl rfl (x_move (v := (Value.int .i64 l9)) rfl e5) ?_
    obtain ⟨q11, z11, r11, h⟩ := h
    generalize hp11 : z11.add ((l9 : Int).toNat * 1) = p11 at h
    refine wpR_val (v := (Value.pointer (some p11))) (w' := w1) rfl rfl rfl ((x_indexAddr (s := p0) rfl rfl rfl ES_22 q11 r11).trans (by rw [hp11])) ?_
    obtain ⟨x12, q12, h⟩ := h
    refine wpR_val (v := (Value.string x12)) (w' := w1) rfl rfl rfl (x_load1 rfl rfl SH_9 q12) ?_
    obtain ⟨f13, fi13, ca13, fn13, qv13, qf13, qn13, qb13, h⟩ := h
    refine wpR_enter rfl rfl rfl (x_callv (vs := [(Value.string x12)]) rfl ((show _ = p1 from rfl).trans qv13) (mapl_cons rfl mapl_nil) qf13 qn13 qb13) (Calls.mono h ?_)
    rintro _ w2 ⟨r13, rfl, h⟩
    refine ⟨_, rfl, ?_⟩
    refine wpR_nil ?_
    refine wpC_cond (b := r13) rfl (fun hc14 => ?_) (fun hc14 => ?_)
    · replace h := h.1 hc14
      refine wpC_seq ?_
      refine wpC_cut (fun ρ => ρ 5 = (Value.int .i64 l9) ∧ True) ⟨e5, trivial⟩ ?_
      rintro ρ ⟨e5, -⟩
      refine wpC_region ?_
      refine wpR_val (v := (Value.int .i64 l9)) (w' := w2) rfl rfl rfl (x_move (v := (Value.int .i64 l9)) rfl e5) ?_
      refine wpR_val (v := (Value.int .i64 l9)) (w' := w2) rfl rfl rfl (x_assign (v := (Value.int .i64 l9)) rfl rfl) ?_
      refine wpR_nil ?_
      refine wpC_ret ?_
      exact ⟨.inl rfl, fun a ha => ⟨_, results_rep1 rfl ha rfl, l9, rfl, h⟩⟩
    · replace h := h.2 hc14
      refine wpC_skip ?_
      refine wpC_cut (fun ρ => ρ 0 = (Sl.v p0) ∧ ρ 1 = p1 ∧ ρ 7 = (Value.int .i64 (p0.len : Int)) ∧ ρ 8 = (Value.int .i64 l9) ∧ True) ⟨e0, e1, e7, e8, trivial⟩ ?_
      rintro ρ ⟨e0, e1, e7, e8, -⟩
      refine wpC_region ?_
      refine wpR_val (v := (Value.int .i64 (IntKind.i64.wrap (l9 + 1)))) (w' := w2) rfl rfl rfl (x_add rfl e8 rfl) ?_
      refine wpR_val (v := (Value.int .i64 (IntKind.i64.wrap (l9 + 1)))) (w' := w2) rfl rfl rfl (x_move (v := (Value.int .i64 (IntKind.i64.wrap (l9 + 1)))) rfl rfl) ?_
      refine wpR_nil ?_
      exact ⟨IntKind.i64.wrap (l9 + 1), ⟨rfl, e0, e1, e7, trivial⟩, h⟩
  · replace h := h.2 hc10
    refine wpC_exit ?_
    refine wpC_seq ?_
    refine wpC_cut (fun ρ => True) trivial ?_
    rintro ρ -
    refine wpC_region ?_
    refine wpR_val (v := (Value.int .i64 (-1))) (w' := w1) rfl rfl rfl (x_assign (v := (Value.int .i64 (-1))) rfl rfl) ?_
    refine wpR_nil ?_
    refine wpC_ret ?_
    exact ⟨.inl rfl, fun a ha => ⟨_, results_rep1 rfl ha rfl, (-1), rfl, h⟩⟩

/-- slices.IndexFunc[[]api.Way,api.Way] -/
def F57 (p0 : Sl) (p1 : Value) (w0 : World) (K : Int → World → Prop) : Prop :=
  lp (fun (next9 : Int → World → Prop) l9 w1 =>
    cnd (decide (l9 < (p0.len : Int)))
      (
      ix p0 l9 2 fun p11 =>
      ld (Value.int .i64) (p11.add 0) w1 fun x12 =>
      ld (Value.int .i64) (p11.add 1) w1 fun x13 =>
      cv Try.prog p1 [(Value.agg #[(Value.int .i64 x12), (Value.int .i64 x13)])] (fun (r : Bool) => (Value.bool r)) w1 fun r14 w2 =>
      cnd (r14)
        (
        K l9 w2
        )
        (
        next9 (IntKind.i64.wrap (l9 + 1)) w2
        )
      )
      (
      K (-1) w1
      )
  ) 0 w0
set_option maxRecDepth 100000 in
theorem D57 (p0 : Sl) (p1 : Value) (w0 : World) (K : Int → World → Prop) (h : F57 p0 p1 w0 K) : callC Try.prog 57 #[(Sl.v p0), p1] (fun (r : Int) => (Value.int .i64 r)) w0 K := by
  unfold F57 at h
  refine calls_of_wpC Try.func57 rfl 19 rfl (by simp) ?_
  intro ρ hρ
  have e0 : ρ 0 = (Sl.v p0) := hρ 0
  have e1 : ρ 1 = p1 := hρ 1
  clear hρ
  refine wpC_seq ?_
  refine wpC_region ?_
  refine wpR_val (v := (Value.int .i64 0)) (w' := w0) rfl rfl rfl (x_assign (v := (Value.int .i64 0)) rfl rfl) ?_
  refine wpR_nil ?_
  refine wpC_seq ?_
  refine wpC_seq ?_
  refine wpC_cut (fun ρ => ρ 0 = (Sl.v p0) ∧ ρ 1 = p1 ∧ True) ⟨e0, e1, trivial⟩ ?_
  rintro ρ ⟨e0, e1, -⟩
  refine wpC_region ?_
  refine wpR_val (v := (Sl.v p0)) (w' := w0) rfl rfl rfl (x_move (v := (Sl.v p0)) rfl e0) ?_
  refine wpR_val (v := (Value.int .i64 (p0.len : Int))) (w' := w0) rfl rfl rfl (x_lenS (s := p0) rfl rfl isSliceT_25) ?_
  refine wpR_val (v := (Value.int .i64 0)) (w' := w0) rfl rfl rfl (x_move (v := (Value.int .i64 0)) rfl rfl) ?_
  refine wpR_nil ?_
  refine wpC_block ?_
  obtain ⟨I9, μ9, hI9, hr9⟩ := h
  refine wpC_loop (fun (x : Int) ρ => ρ 8 = (Value.int .i64 x) ∧ ρ 0 = (Sl.v p0) ∧ ρ 1 = p1 ∧ ρ 7 = (Value.int .i64 (p0.len : Int)) ∧ True) I9 μ9 0 ⟨rfl, e0, e1, rfl, trivial⟩ hI9 ?_
  rintro l9 ρ w1 ⟨e8, e0, e1, e7, -⟩ h
  replace h := hr9 l9 w1 h
  clear hr9 hI9
  refine wpC_seq ?_
  refine wpC_region ?_
  refine wpR_val (v := (Value.bool (decide (l9 < (p0.len : Int))))) (w' := w1) rfl rfl rfl (x_lss rfl e8 e7) ?_
  refine wpR_nil ?_
  refine wpC_seq ?_
  refine wpC_cond (b := decide (l9 < (p0.len : Int))) rfl (fun hc10 => ?_) (fun hc10 => ?_)
  · replace h := h.1 hc10
    refine wpC_skip ?_
    refine wpC_seq ?_
    refine wpC_block ?_
    refine wpC_seq ?_
    refine wpC_cut (fun ρ => ρ 0 = (Sl.v p0) ∧ ρ 1 = p1 ∧ ρ 7 = (Value.int .i64 (p0.len : Int)) ∧ ρ 8 = (Value.int .i64 l9) ∧ True) ⟨e0, e1, e7, e8, trivial⟩ ?_
    rintro ρ ⟨e0, e1, e7, e8, -⟩
    refine wpC_region ?_
    refine wpR_val (v := (Value.int .i64 l9)) (w' := w1) rfl rfl rfl (x_move (v := (Value.int .i64 l9)) rfl e8) ?_
    refine wpR_val (v := (Value.int .i64 l9)) (w' := w1) rfl rfl rfl (x_assign (v := (Value.int .i64 l9)) rfl rfl) ?_
    refine wpR_nil ?_
    refine wpC_seq ?_
    refine wpC_cut (fun ρ => ρ 0 = (Sl.v p0) ∧ ρ 1 = p1 ∧ ρ 5 = (Value.int .i64 l9) ∧ ρ 7 = (Value.int .i64 (p0.len : Int)) ∧ ρ 8 = (Value.int .i64 l9) ∧ True) ⟨e0, e1, rfl, e7, e8, trivial⟩ ?_
    rintro ρ ⟨e0, e1, e5, e7, e8, -⟩
    refine wpC_region ?_
    refine wpR_val (v := p1) (w' := w1) rfl rfl rfl (x_move (v := p1) rfl e1) ?_
    refine wpR_val (v := (Sl.v p0)) (w' := w1) rfl rfl rfl (x_move (v := (Sl.v p0)) rfl e0) ?_
    refine wpR_val (v := (Value.int .i64 l9)) (w' := w1) rfl rfl rfl (x_move (v := (Value.int .i64 l9)) rfl e5) ?_
    obtain ⟨q11, z11, r11, h⟩ := h
    generalize hp11 : z11.add ((l9 : Int).toNat * 2) = p11 at h
    refine wpR_val (v := (Value.pointer (some p11))) (w' := w1) rfl rfl rfl ((x_indexAddr (s := p0) rfl rfl rfl ES_25 q11 r11).trans (by rw [hp11])) ?_
    obtain ⟨x12, q12, x13, q13, h⟩ := h
    refine wpR_val (v := (Value.agg #[(Value.int .i64 x12), (Value.int .i64 x13)])) (w' := w1) rfl rfl rfl (x_loadN [(Value.int .i64 x12), (Value.int .i64 x13)] rfl rfl SH_46 (CellsAt.out (CellsAt.cons q12 (CellsAt.cons q13 CellsAt.nil)))) ?_
    obtain ⟨f14, fi14, ca14, fn14, qv14, qf14, qn14, qb14, h⟩ := h
    refine wpR_enter rfl rfl rfl (x_callv (vs := [(Value.agg #[(Value.int .i64 x12), (Value.int .i64 x13)])]) rfl ((show _ = p1 from rfl).trans qv14) (mapl_cons rfl mapl_nil) qf14 qn14 qb14) (Calls.mono h ?_)
    rintro _ w2 ⟨r14, rfl, h⟩
    refine ⟨_, rfl, ?_⟩
    refine wpR_nil ?_
    refine wpC_cond (b := r14) rfl (fun hc15 => ?_) (fun hc15 => ?_)
    · replace h := h.1 hc15
      refine wpC_seq ?_
      refine wpC_cut (fun ρ => ρ 5 = (Value.int .i64 l9) ∧ True) ⟨e5, trivial⟩ ?_
      rintro ρ ⟨e5, -⟩
      refine wpC_region ?_
      refine wpR_val (v := (Value.int .i64 l9)) (w' := w2) rfl rfl rfl (x_move (v := (Value.int .i64 l9)) rfl e5) ?_
      refine wpR_val (v := (Value.int .i64 l9)) (w' := w2) rfl rfl rfl (x_assign (v := (Value.int .i64 l9)) rfl rfl) ?_
      refine wpR_nil ?_
      refine wpC_ret ?_
      exact ⟨.inl rfl, fun a ha => ⟨_, results_rep1 rfl ha rfl, l9, rfl, h⟩⟩
    · replace h := h.2 hc15
      refine wpC_skip ?_
      refine wpC_cut (fun ρ => ρ 0 = (Sl.v p0) ∧ ρ 1 = p1 ∧ ρ 7 = (Value.int .i64 (p0.len : Int)) ∧ ρ 8 = (Value.int .i64 l9) ∧ True) ⟨e0, e1, e7, e8, trivial⟩ ?_
      rintro ρ ⟨e0, e1, e7, e8, -⟩
      refine wpC_region ?_
      refine wpR_val (v := (Value.int .i64 (IntKind.i64.wrap (l9 + 1)))) (w' := w2) rfl rfl rfl (x_add rfl e8 rfl) ?_
      refine wpR_val (v := (Value.int .i64 (IntKind.i64.wrap (l9 + 1)))) (w' := w2) rfl rfl rfl (x_move (v := (Value.int .i64 (IntKind.i64.wrap (l9 + 1)))) rfl rfl) ?_
      refine wpR_nil ?_
      exact ⟨IntKind.i64.wrap (l9 + 1), ⟨rfl, e0, e1, e7, trivial⟩, h⟩
  · replace h := h.2 hc10
    refine wpC_exit ?_
    refine wpC_seq ?_
    refine wpC_cut (fun ρ => True) trivial ?_
    rintro ρ -
    refine wpC_region ?_
    refine wpR_val (v := (Value.int .i64 (-1))) (w' := w1) rfl rfl rfl (x_assign (v := (Value.int .i64 (-1))) rfl rfl) ?_
    refine wpR_nil ?_
    refine wpC_ret ?_
    exact ⟨.inl rfl, fun a ha => ⟨_, results_rep1 rfl ha rfl, (-1), rfl, h⟩⟩

/-- linguaref12.within -/
def F58 (p0 : Int) (p1 : Int) (p2 : Int) (w0 : World) (K : Bool → World → Prop) : Prop :=
  K ((decide (p1 ≤ p0)) && (decide (p0 ≤ p2))) w0
set_option maxRecDepth 100000 in
theorem D58 (p0 : Int) (p1 : Int) (p2 : Int) (w0 : World) (K : Bool → World → Prop) (h : F58 p0 p1 p2 w0 K) : callC Try.prog 58 #[(Value.int .i64 p0), (Value.int .i64 p1), (Value.int .i64 p2)] (fun (r : Bool) => (Value.bool r)) w0 K := by
  unfold F58 at h
  refine calls_of_wpC Try.func58 rfl 15 rfl (by simp) ?_
  intro ρ hρ
  have e0 : ρ 0 = (Value.int .i64 p0) := hρ 0
  have e1 : ρ 1 = (Value.int .i64 p1) := hρ 1
  have e2 : ρ 2 = (Value.int .i64 p2) := hρ 2
  clear hρ
  refine wpC_seq ?_
  refine wpC_region ?_
  refine wpR_val (v := (Value.bool false)) (w' := w0) rfl rfl rfl (x_assign (v := (Value.bool false)) rfl rfl) ?_
  refine wpR_nil ?_
  refine wpC_seq ?_
  refine wpC_cut (fun ρ => ρ 0 = (Value.int .i64 p0) ∧ ρ 1 = (Value.int .i64 p1) ∧ ρ 2 = (Value.int .i64 p2) ∧ True) ⟨e0, e1, e2, trivial⟩ ?_
  rintro ρ ⟨e0, e1, e2, -⟩
  refine wpC_region ?_
  refine wpR_val (v := (Value.int .i64 p0)) (w' := w0) rfl rfl rfl (x_move (v := (Value.int .i64 p0)) rfl e0) ?_
  refine wpR_val (v := (Value.int .i64 p1)) (w' := w0) rfl rfl rfl (x_move (v := (Value.int .i64 p1)) rfl e1) ?_
  refine wpR_val (v := (Value.bool (decide (p1 ≤ p0)))) (w' := w0) rfl rfl rfl (x_geq rfl rfl rfl) ?_
  refine wpR_val (v := (Value.bool (decide (p1 ≤ p0)))) (w' := w0) rfl rfl rfl (x_move (v := (Value.bool (decide (p1 ≤ p0)))) rfl rfl) ?_
  refine wpR_joinJ 4 (fun (_ : Unit) ρ => ρ 14 = Value.bool ((decide (p1 ≤ p0)) && (decide (p0 ≤ p2))) ∧ True) (fun _ w => w0 = w) ?_ ?_
  · clear h
    rcases Bool.eq_false_or_eq_true (decide (p1 ≤ p0)) with hc10 | hc10
    · skip
      refine wpR_val (v := (Value.int .i64 p0)) (w' := w0) (wantG rfl rfl rfl hc10) rfl rfl (x_move (v := (Value.int .i64 p0)) rfl e0) ?_
      refine wpR_val (v := (Value.int .i64 p2)) (w' := w0) (wantG rfl rfl rfl hc10) rfl rfl (x_move (v := (Value.int .i64 p2)) rfl e2) ?_
      refine wpR_val (v := (Value.bool (decide (p0 ≤ p2)))) (w' := w0) (wantG rfl rfl rfl hc10) rfl rfl (x_leq rfl rfl rfl) ?_
      refine wpR_val (v := (Value.bool (decide (p0 ≤ p2)))) (w' := w0) rfl rfl rfl (x_pickT (v := (Value.bool (decide (p0 ≤ p2)))) rfl rfl hc10 rfl) ?_
      refine wpR_nil ?_
      exact ⟨(), ⟨(by rw [hc10]; rfl), trivial⟩, rfl⟩
    · skip
      refine wpR_pass (wantN rfl rfl rfl hc10) rfl rfl ?_
      refine wpR_pass (wantN rfl rfl rfl hc10) rfl rfl ?_
      refine wpR_pass (wantN rfl rfl rfl hc10) rfl rfl ?_
      refine wpR_val (v := (Value.bool false)) (w' := w0) rfl rfl rfl (x_pickF (v := (Value.bool false)) rfl rfl hc10 rfl) ?_
      refine wpR_nil ?_
      exact ⟨(), ⟨(by rw [hc10]; rfl), trivial⟩, rfl⟩
  rintro _ ρ wj ⟨e14, -⟩ rfl
  refine wpR_val (v := (Value.bool ((decide (p1 ≤ p0)) && (decide (p0 ≤ p2))))) (w' := w0) rfl rfl rfl (x_assign (v := (Value.bool ((decide (p1 ≤ p0)) && (decide (p0 ≤ p2))))) rfl e14) ?_
  refine wpR_nil ?_
  refine wpC_ret ?_
  exact ⟨.inl rfl, fun a ha => ⟨_, results_rep1 rfl ha rfl, (decide (p1 ≤ p0)) && (decide (p0 ≤ p2)), rfl, h⟩⟩


end Go.Proofs.Ytnoahloppffndaa
