import Derived.Test.YtcnnnhligkpamaaRows
import Derived.Test.YtcnnnhligkpamaaFs1
import Derived.Test.YtcnnnhligkpamaaDecRaw
namespace Go.Proofs.Ytcnnnhligkpamaa
open Go.Dec
set_option maxHeartbeats 400000

/-- sight.To -/
def F11 (p0 : Sl) (p1 : Sl) (p2 : Int) (p3 : Int) (w0 : World) (K : Bool → World → Prop) : Prop :=
  nw 22 #[(Sl.v p0)] w0 fun b1 w1 =>
  nw 23 #[(Sl.v p1)] w1 fun b2 w2 =>
  nw 3 #[(Value.int .i64 p2)] w2 fun b3 w3 =>
  nw 3 #[(Value.int .i64 p3)] w3 fun b4 w4 =>
  ld (Value.int .i64) (Addr.mk b4 0 none) w4 fun x5 =>
  jp (fun J6 => cnd (decide (x5 < 0))
    (
    J6 true
    )
    (
    ld (Value.int .i64) (Addr.mk b4 0 none) w4 fun x8 =>
    ld Sl.v (Addr.mk b2 0 none) w4 fun x9 =>
    J6 (decide ((x9.len : Int) ≤ x8))
    ))
  fun c10 =>
  cnd (c10)
    (
    K false w4
    )
    (
    ld Sl.v (Addr.mk b2 0 none) w4 fun x12 =>
    callC Try.prog 17 #[(Sl.v x12)] (fun (r : Sl) => (Sl.v r)) w4 fun r13 w5 =>
    nw 37 #[(Sl.v Sl.nil)] w5 fun b14 w6 =>
    st (Addr.mk b14 0 none) [(Sl.v r13)] w6 fun w7 =>
    ld Sl.v (Addr.mk b2 0 none) w7 fun x16 =>
    ld (Value.int .i64) (Addr.mk b4 0 none) w7 fun x17 =>
    ix x16 x17 12 fun p18 =>
    ld (Value.int .i64) (p18.add 0) w7 fun x19 =>
    nw 3 #[(Value.int .i64 x19)] w7 fun b20 w8 =>
    ld Sl.v (Addr.mk b14 0 none) w8 fun x21 =>
    lp (fun (next22 : (Sl × Int) → World → Prop) l22 w9 =>
      cnd (decide (l22.2 < (x21.len : Int)))
        (
        ix x21 l22.2 4 fun p24 =>
        ld (Value.int .i64) (p24.add 0) w9 fun x25 =>
        ld (Value.int .i64) (p24.add 1) w9 fun x26 =>
        ld (Value.int .i64) (p24.add 2) w9 fun x27 =>
        ld (Value.int .i64) (p24.add 3) w9 fun x28 =>
        nw 43 #[(Value.int .i64 0), (Value.int .i64 0), (Value.int .i64 0), (Value.int .i64 0)] w9 fun b29 w10 =>
        st (Addr.mk b29 0 none) [(Value.int .i64 x25), (Value.int .i64 x26), (Value.int .i64 x27), (Value.int .i64 x28)] w10 fun w11 =>
        ld (Value.int .i64) ((Addr.mk b29 0 none).add 0) w11 fun x31 =>
        nw 3 #[(Value.int .i64 x31)] w11 fun b32 w12 =>
        rn Try.prog (Builtin.append_ #[28, 28] 28 #[Sl.v l22.1, Sl.v (⟨some ⟨b32, 0, none⟩, 1, 1⟩ : Sl)]) Sl.v w12 fun r33 w13 =>
        next22 (r33, IntKind.i64.wrap (l22.2 + 1)) w13
        )
        (
        callC Try.prog 26 #[(Sl.v l22.1), (Value.func (.func 27) #[] (List.toArray [(Value.pointer (some (Addr.mk b3 0 none))), (Value.pointer (some (Addr.mk b1 0 none))), (Value.pointer (some (Addr.mk b2 0 none))), (Value.pointer (some (Addr.mk b14 0 none))), (Value.pointer (some (Addr.mk b4 0 none)))]))] (fun (r : Bool) => (Value.bool r)) w9 fun r34 w14 =>
        K r34 w14
        )
    ) ((⟨some ⟨b20, 0, none⟩, 1, 1⟩ : Sl), 0) w8
    )
set_option maxRecDepth 100000 in
theorem D11 (p0 : Sl) (p1 : Sl) (p2 : Int) (p3 : Int) (w0 : World) (K : Bool → World → Prop) (h : F11 p0 p1 p2 p3 w0 K) : callC Try.prog 11 #[(Sl.v p0), (Sl.v p1), (Value.int .i64 p2), (Value.int .i64 p3)] (fun (r : Bool) => (Value.bool r)) w0 K := by
  unfold F11 at h
  refine calls_of_wpC Try.func11 rfl 44 rfl (by simp) ?_
  intro ρ hρ
  have e0 : ρ 0 = (Sl.v p0) := hρ 0
  have e1 : ρ 1 = (Sl.v p1) := hρ 1
  have e2 : ρ 2 = (Value.int .i64 p2) := hρ 2
  have e3 : ρ 3 = (Value.int .i64 p3) := hρ 3
  clear hρ
  refine wpC_seq ?_
  refine wpC_region ?_
  obtain ⟨b1, hb1⟩ : ∃ u, u = w0.heap.size := ⟨_, rfl⟩
  obtain ⟨w1, hw1⟩ : ∃ u, u = w0.alloc (.cells #[(Sl.v p0)] 22) := ⟨_, rfl⟩
  replace h := h b1 w1 hb1 hw1
  refine wpR_val (v := (Value.pointer (some (Addr.mk b1 0 none)))) (w' := w1) rfl rfl rfl ((x_box (v := (Sl.v p0)) rfl e0).trans (by rw [hb1, hw1]; rfl)) ?_
  obtain ⟨b2, hb2⟩ : ∃ u, u = w1.heap.size := ⟨_, rfl⟩
  obtain ⟨w2, hw2⟩ : ∃ u, u = w1.alloc (.cells #[(Sl.v p1)] 23) := ⟨_, rfl⟩
  replace h := h b2 w2 hb2 hw2
  refine wpR_val (v := (Value.pointer (some (Addr.mk b2 0 none)))) (w' := w2) rfl rfl rfl ((x_box (v := (Sl.v p1)) rfl e1).trans (by rw [hb2, hw2]; rfl)) ?_
  obtain ⟨b3, hb3⟩ : ∃ u, u = w2.heap.size := ⟨_, rfl⟩
  obtain ⟨w3, hw3⟩ : ∃ u, u = w2.alloc (.cells #[(Value.int .i64 p2)] 3) := ⟨_, rfl⟩
  replace h := h b3 w3 hb3 hw3
  refine wpR_val (v := (Value.pointer (some (Addr.mk b3 0 none)))) (w' := w3) rfl rfl rfl ((x_box (v := (Value.int .i64 p2)) rfl e2).trans (by rw [hb3, hw3]; rfl)) ?_
  obtain ⟨b4, hb4⟩ : ∃ u, u = w3.heap.size := ⟨_, rfl⟩
  obtain ⟨w4, hw4⟩ : ∃ u, u = w3.alloc (.cells #[(Value.int .i64 p3)] 3) := ⟨_, rfl⟩
  replace h := h b4 w4 hb4 hw4
  refine wpR_val (v := (Value.pointer (some (Addr.mk b4 0 none)))) (w' := w4) rfl rfl rfl ((x_box (v := (Value.int .i64 p3)) rfl e3).trans (by rw [hb4, hw4]; rfl)) ?_
  refine wpR_val (v := (Value.bool false)) (w' := w4) rfl rfl rfl (x_assign (v := (Value.bool false)) rfl rfl) ?_
  refine wpR_nil ?_
  refine wpC_seq ?_
  refine wpC_seq ?_
  refine wpC_cut (fun ρ => ρ 4 = (Value.pointer (some (Addr.mk b1 0 none))) ∧ ρ 5 = (Value.pointer (some (Addr.mk b2 0 none))) ∧ ρ 6 = (Value.pointer (some (Addr.mk b3 0 none))) ∧ ρ 7 = (Value.pointer (some (Addr.mk b4 0 none))) ∧ True) ⟨rfl, rfl, rfl, rfl, trivial⟩ ?_
  rintro ρ ⟨e4, e5, e6, e7, -⟩
  refine wpC_region ?_
  obtain ⟨x5, q5, h⟩ := h
  refine wpR_val (v := (Value.int .i64 x5)) (w' := w4) rfl rfl rfl (x_load1 rfl e7 SH_3 q5) ?_
  refine wpR_val (v := (Value.bool (decide (x5 < 0)))) (w' := w4) rfl rfl rfl (x_lss rfl rfl rfl) ?_
  refine wpR_val (v := (Value.bool (decide (x5 < 0)))) (w' := w4) rfl rfl rfl (x_move (v := (Value.bool (decide (x5 < 0)))) rfl rfl) ?_
  obtain ⟨J6, h, hk⟩ := h
  refine wpR_joinJ 5 (fun x ρ => ρ 20 = Value.bool x ∧ ρ 4 = (Value.pointer (some (Addr.mk b1 0 none))) ∧ ρ 5 = (Value.pointer (some (Addr.mk b2 0 none))) ∧ ρ 6 = (Value.pointer (some (Addr.mk b3 0 none))) ∧ ρ 7 = (Value.pointer (some (Addr.mk b4 0 none))) ∧ True) (fun x w => J6 x ∧ w4 = w) ?_ ?_
  · clear hk
    rcases Bool.eq_false_or_eq_true (decide (x5 < 0)) with hc7 | hc7
    · replace h := h.1 hc7
      refine wpR_pass (wantN rfl rfl rfl hc7) rfl rfl ?_
      refine wpR_pass (wantN rfl rfl rfl hc7) rfl rfl ?_
      refine wpR_pass (wantN rfl rfl rfl hc7) rfl rfl ?_
      refine wpR_pass (wantN rfl rfl rfl hc7) rfl rfl ?_
      refine wpR_val (v := (Value.bool true)) (w' := w4) rfl rfl rfl (x_pickT (v := (Value.bool true)) rfl rfl hc7 rfl) ?_
      refine wpR_nil ?_
      exact ⟨true, ⟨rfl, e4, e5, e6, e7, trivial⟩, h, rfl⟩
    · replace h := h.2 hc7
      obtain ⟨x8, q8, h⟩ := h
      refine wpR_val (v := (Value.int .i64 x8)) (w' := w4) (wantG rfl rfl rfl hc7) rfl rfl (x_load1 rfl e7 SH_3 q8) ?_
      obtain ⟨x9, q9, h⟩ := h
      refine wpR_val (v := (Sl.v x9)) (w' := w4) (wantG rfl rfl rfl hc7) rfl rfl (x_load1 rfl e5 SH_23 q9) ?_
      refine wpR_val (v := (Value.int .i64 (x9.len : Int))) (w' := w4) (wantG rfl rfl rfl hc7) rfl rfl (x_lenS (s := x9) rfl rfl isSliceT_23) ?_
      refine wpR_val (v := (Value.bool (decide ((x9.len : Int) ≤ x8)))) (w' := w4) (wantG rfl rfl rfl hc7) rfl rfl (x_geq rfl rfl rfl) ?_
      refine wpR_val (v := (Value.bool (decide ((x9.len : Int) ≤ x8)))) (w' := w4) rfl rfl rfl (x_pickF (v := (Value.bool (decide ((x9.len : Int) ≤ x8)))) rfl rfl hc7 rfl) ?_
      refine wpR_nil ?_
      exact ⟨decide ((x9.len : Int) ≤ x8), ⟨rfl, e4, e5, e6, e7, trivial⟩, h, rfl⟩
  clear h
  rintro c10 ρ wj ⟨e20, e4, e5, e6, e7, -⟩ ⟨h, rfl⟩
  replace h := hk c10 h
  clear hk
  refine wpR_nil ?_
  refine wpC_cond (b := c10) e20 (fun hc11 => ?_) (fun hc11 => ?_)
  · replace h := h.1 hc11
    refine wpC_seq ?_
    refine wpC_region ?_
    refine wpR_val (v := (Value.bool false)) (w' := w4) rfl rfl rfl (x_assign (v := (Value.bool false)) rfl rfl) ?_
    refine wpR_nil ?_
    refine wpC_ret ?_
    exact ⟨.inl rfl, fun a ha => ⟨_, results_rep1 rfl ha rfl, false, rfl, h⟩⟩
  · replace h := h.2 hc11
    refine wpC_skip ?_
    refine wpC_seq ?_
    refine wpC_region ?_
    obtain ⟨x12, q12, h⟩ := h
    refine wpR_val (v := (Sl.v x12)) (w' := w4) rfl rfl rfl (x_load1 rfl e5 SH_23 q12) ?_
    refine wpR_enter rfl rfl rfl (x_call (vs := [(Sl.v x12)]) rfl rfl (mapl_cons rfl mapl_nil) Try.func17 NN_17 NB_17) (Calls.mono h ?_)
    rintro _ w5 ⟨r13, rfl, h⟩
    refine ⟨_, rfl, ?_⟩
    obtain ⟨b14, hb14⟩ : ∃ u, u = w5.heap.size := ⟨_, rfl⟩
    obtain ⟨w6, hw14⟩ : ∃ u, u = w5.alloc (.cells #[(Sl.v Sl.nil)] 37) := ⟨_, rfl⟩
    replace h := h b14 w6 hb14 hw14
    refine wpR_val (v := (Value.pointer (some (Addr.mk b14 0 none)))) (w' := w6) rfl rfl rfl ((x_alloc rfl ZV_37).trans (by rw [hb14, hw14]; rfl)) ?_
    obtain ⟨q15, h⟩ := h
    obtain ⟨w7, hw15⟩ : ∃ u, u = setAll w6 (Addr.mk b14 0 none) [(Sl.v r13)] 0 := ⟨_, rfl⟩
    replace h := h w7 hw15
    refine wpR_skp (w' := w7) rfl rfl ((x_store (v := (Sl.v r13)) rfl rfl rfl SZ_37 (ones (by rfl)) q15).trans (by rw [hw15]; rfl)) ?_
    refine wpR_nil ?_
    refine wpC_seq ?_
    refine wpC_cut (fun ρ => ρ 4 = (Value.pointer (some (Addr.mk b1 0 none))) ∧ ρ 5 = (Value.pointer (some (Addr.mk b2 0 none))) ∧ ρ 6 = (Value.pointer (some (Addr.mk b3 0 none))) ∧ ρ 7 = (Value.pointer (some (Addr.mk b4 0 none))) ∧ ρ 9 = (Value.pointer (some (Addr.mk b14 0 none))) ∧ True) ⟨e4, e5, e6, e7, rfl, trivial⟩ ?_
    rintro ρ ⟨e4, e5, e6, e7, e9, -⟩
    refine wpC_region ?_
    obtain ⟨x16, q16, h⟩ := h
    refine wpR_val (v := (Sl.v x16)) (w' := w7) rfl rfl rfl (x_load1 rfl e5 SH_23 q16) ?_
    obtain ⟨x17, q17, h⟩ := h
    refine wpR_val (v := (Value.int .i64 x17)) (w' := w7) rfl rfl rfl (x_load1 rfl e7 SH_3 q17) ?_
    obtain ⟨q18, z18, r18, h⟩ := h
    generalize hp18 : z18.add ((x17 : Int).toNat * 12) = p18 at h
    refine wpR_val (v := (Value.pointer (some p18))) (w' := w7) rfl rfl rfl ((x_indexAddr (s := x16) rfl rfl rfl ES_23 q18 r18).trans (by rw [hp18])) ?_
    refine wpR_val (v := (Value.pointer (some (p18.add 0)))) (w' := w7) rfl rfl rfl (x_fieldAddr rfl rfl FA_41_0) ?_
    obtain ⟨x19, q19, h⟩ := h
    refine wpR_val (v := (Value.int .i64 x19)) (w' := w7) rfl rfl rfl (x_load1 rfl rfl SH_3 q19) ?_
    obtain ⟨b20, hb20⟩ : ∃ u, u = w7.heap.size := ⟨_, rfl⟩
    obtain ⟨w8, hw20⟩ : ∃ u, u = w7.alloc (.cells #[(Value.int .i64 x19)] 3) := ⟨_, rfl⟩
    replace h := h b20 w8 hb20 hw20
    refine wpR_val (v := (Sl.v (⟨some ⟨b20, 0, none⟩, 1, 1⟩ : Sl))) (w' := w8) rfl rfl rfl ((x_buildSlice (qs := [(0, (Value.int .i64 x19))]) rfl (by rfl) (BS_28_1_0 x19)).trans (by rw [← hb20, ← hw20])) ?_
    refine wpR_val (v := (Sl.v (⟨some ⟨b20, 0, none⟩, 1, 1⟩ : Sl))) (w' := w8) rfl rfl rfl (x_assign (v := (Sl.v (⟨some ⟨b20, 0, none⟩, 1, 1⟩ : Sl))) rfl rfl) ?_
    refine wpR_nil ?_
    refine wpC_seq ?_
    refine wpC_seq ?_
    refine wpC_cut (fun ρ => ρ 4 = (Value.pointer (some (Addr.mk b1 0 none))) ∧ ρ 5 = (Value.pointer (some (Addr.mk b2 0 none))) ∧ ρ 6 = (Value.pointer (some (Addr.mk b3 0 none))) ∧ ρ 7 = (Value.pointer (some (Addr.mk b4 0 none))) ∧ ρ 9 = (Value.pointer (some (Addr.mk b14 0 none))) ∧ ρ 10 = (Sl.v (⟨some ⟨b20, 0, none⟩, 1, 1⟩ : Sl)) ∧ True) ⟨e4, e5, e6, e7, e9, rfl, trivial⟩ ?_
    rintro ρ ⟨e4, e5, e6, e7, e9, e10, -⟩
    refine wpC_region ?_
    obtain ⟨x21, q21, h⟩ := h
    refine wpR_val (v := (Sl.v x21)) (w' := w8) rfl rfl rfl (x_load1 rfl e9 SH_37 q21) ?_
    refine wpR_val (v := (Value.int .i64 (x21.len : Int))) (w' := w8) rfl rfl rfl (x_lenS (s := x21) rfl rfl isSliceT_37) ?_
    refine wpR_val (v := (Value.int .i64 0)) (w' := w8) rfl rfl rfl (x_move (v := (Value.int .i64 0)) rfl rfl) ?_
    refine wpR_nil ?_
    refine wpC_block ?_
    obtain ⟨I22, μ22, hI22, hr22⟩ := h
    refine wpC_loop (fun (x : Sl × Int) ρ => ρ 10 = (Sl.v x.1) ∧ ρ 31 = (Value.int .i64 x.2) ∧ ρ 4 = (Value.pointer (some (Addr.mk b1 0 none))) ∧ ρ 5 = (Value.pointer (some (Addr.mk b2 0 none))) ∧ ρ 6 = (Value.pointer (some (Addr.mk b3 0 none))) ∧ ρ 7 = (Value.pointer (some (Addr.mk b4 0 none))) ∧ ρ 9 = (Value.pointer (some (Addr.mk b14 0 none))) ∧ ρ 29 = (Sl.v x21) ∧ ρ 30 = (Value.int .i64 (x21.len : Int)) ∧ True) I22 μ22 ((⟨some ⟨b20, 0, none⟩, 1, 1⟩ : Sl), 0) ⟨e10, rfl, e4, e5, e6, e7, e9, rfl, rfl, trivial⟩ hI22 ?_
    rintro l22 ρ w9 ⟨e10, e31, e4, e5, e6, e7, e9, e29, e30, -⟩ h
    replace h := hr22 l22 w9 h
    clear hr22 hI22
    refine wpC_seq ?_
    refine wpC_region ?_
    refine wpR_val (v := (Value.bool (decide (l22.2 < (x21.len : Int))))) (w' := w9) rfl rfl rfl (x_lss rfl e31 e30) ?_
    refine wpR_nil ?_
    refine wpC_seq ?_
    refine wpC_cond (b := decide (l22.2 < (x21.len : Int))) rfl (fun hc23 => ?_) (fun hc23 => ?_)
    · replace h := h.1 hc23
      refine wpC_skip ?_
      refine wpC_seq ?_
      refine wpC_block ?_
      refine wpC_seq ?_
      refine wpC_cut (fun ρ => ρ 4 = (Value.pointer (some (Addr.mk b1 0 none))) ∧ ρ 5 = (Value.pointer (some (Addr.mk b2 0 none))) ∧ ρ 6 = (Value.pointer (some (Addr.mk b3 0 none))) ∧ ρ 7 = (Value.pointer (some (Addr.mk b4 0 none))) ∧ ρ 9 = (Value.pointer (some (Addr.mk b14 0 none))) ∧ ρ 10 = (Sl.v l22.1) ∧ ρ 29 = (Sl.v x21) ∧ ρ 30 = (Value.int .i64 (x21.len : Int)) ∧ ρ 31 = (Value.int .i64 l22.2) ∧ True) ⟨e4, e5, e6, e7, e9, e10, e29, e30, e31, trivial⟩ ?_
      rintro ρ ⟨e4, e5, e6, e7, e9, e10, e29, e30, e31, -⟩
      refine wpC_region ?_
      obtain ⟨q24, z24, r24, h⟩ := h
      generalize hp24 : z24.add ((l22.2 : Int).toNat * 4) = p24 at h
      refine wpR_val (v := (Value.pointer (some p24))) (w' := w9) rfl rfl rfl ((x_indexAddr (s := x21) rfl e29 e31 ES_37 q24 r24).trans (by rw [hp24])) ?_
      obtain ⟨x25, q25, h⟩ := h
      obtain ⟨x26, q26, h⟩ := h
      obtain ⟨x27, q27, h⟩ := h
      obtain ⟨x28, q28, h⟩ := h
      refine wpR_val (v := (Value.agg #[(Value.int .i64 x25), (Value.int .i64 x26), (Value.int .i64 x27), (Value.int .i64 x28)])) (w' := w9) rfl rfl rfl (x_loadN [(Value.int .i64 x25), (Value.int .i64 x26), (Value.int .i64 x27), (Value.int .i64 x28)] rfl rfl SH_43 (CellsAt.out (CellsAt.cons q25 (CellsAt.cons q26 (CellsAt.cons q27 (CellsAt.cons q28 CellsAt.nil)))))) ?_
      obtain ⟨b29, hb29⟩ : ∃ u, u = w9.heap.size := ⟨_, rfl⟩
      obtain ⟨w10, hw29⟩ : ∃ u, u = w9.alloc (.cells #[(Value.int .i64 0), (Value.int .i64 0), (Value.int .i64 0), (Value.int .i64 0)] 43) := ⟨_, rfl⟩
      replace h := h b29 w10 hb29 hw29
      refine wpR_val (v := (Value.pointer (some (Addr.mk b29 0 none)))) (w' := w10) rfl rfl rfl ((x_alloc rfl ZV_43).trans (by rw [hb29, hw29]; rfl)) ?_
      obtain ⟨q30, h⟩ := h
      obtain ⟨w11, hw30⟩ : ∃ u, u = setAll w10 (Addr.mk b29 0 none) [(Value.int .i64 x25), (Value.int .i64 x26), (Value.int .i64 x27), (Value.int .i64 x28)] 0 := ⟨_, rfl⟩
      replace h := h w11 hw30
      refine wpR_skp (w' := w11) rfl rfl ((x_store (v := (Value.agg #[(Value.int .i64 x25), (Value.int .i64 x26), (Value.int .i64 x27), (Value.int .i64 x28)])) rfl rfl rfl SZ_43 (ones (by rfl)) q30).trans (by rw [hw30]; rfl)) ?_
      refine wpR_nil ?_
      refine wpC_cut (fun ρ => ρ 4 = (Value.pointer (some (Addr.mk b1 0 none))) ∧ ρ 5 = (Value.pointer (some (Addr.mk b2 0 none))) ∧ ρ 6 = (Value.pointer (some (Addr.mk b3 0 none))) ∧ ρ 7 = (Value.pointer (some (Addr.mk b4 0 none))) ∧ ρ 9 = (Value.pointer (some (Addr.mk b14 0 none))) ∧ ρ 10 = (Sl.v l22.1) ∧ ρ 12 = (Value.pointer (some (Addr.mk b29 0 none))) ∧ ρ 29 = (Sl.v x21) ∧ ρ 30 = (Value.int .i64 (x21.len : Int)) ∧ ρ 31 = (Value.int .i64 l22.2) ∧ True) ⟨e4, e5, e6, e7, e9, e10, rfl, e29, e30, e31, trivial⟩ ?_
      rintro ρ ⟨e4, e5, e6, e7, e9, e10, e12, e29, e30, e31, -⟩
      refine wpC_region ?_
      refine wpR_val (v := (Sl.v l22.1)) (w' := w11) rfl rfl rfl (x_move (v := (Sl.v l22.1)) rfl e10) ?_
      refine wpR_val (v := (Value.pointer (some ((Addr.mk b29 0 none).add 0)))) (w' := w11) rfl rfl rfl (x_fieldAddr rfl e12 FA_43_0) ?_
      obtain ⟨x31, q31, h⟩ := h
      refine wpR_val (v := (Value.int .i64 x31)) (w' := w11) rfl rfl rfl (x_load1 rfl rfl SH_3 q31) ?_
      obtain ⟨b32, hb32⟩ : ∃ u, u = w11.heap.size := ⟨_, rfl⟩
      obtain ⟨w12, hw32⟩ : ∃ u, u = w11.alloc (.cells #[(Value.int .i64 x31)] 3) := ⟨_, rfl⟩
      replace h := h b32 w12 hb32 hw32
      refine wpR_val (v := (Sl.v (⟨some ⟨b32, 0, none⟩, 1, 1⟩ : Sl))) (w' := w12) rfl rfl rfl ((x_buildSlice (qs := [(0, (Value.int .i64 x31))]) rfl (by rfl) (BS_28_1_0 x31)).trans (by rw [← hb32, ← hw32])) ?_
      obtain ⟨r33, w13, q33, h⟩ := h
      refine wpR_val (v := (Sl.v r33)) (w' := w13) rfl rfl rfl (x_append (s := l22.1) (u := (⟨some ⟨b32, 0, none⟩, 1, 1⟩ : Sl)) rfl rfl rfl rfl q33) ?_
      refine wpR_val (v := (Sl.v r33)) (w' := w13) rfl rfl rfl (x_assign (v := (Sl.v r33)) rfl rfl) ?_
      refine wpR_nil ?_
      refine wpC_cut (fun ρ => ρ 4 = (Value.pointer (some (Addr.mk b1 0 none))) ∧ ρ 5 = (Value.pointer (some (Addr.mk b2 0 none))) ∧ ρ 6 = (Value.pointer (some (Addr.mk b3 0 none))) ∧ ρ 7 = (Value.pointer (some (Addr.mk b4 0 none))) ∧ ρ 9 = (Value.pointer (some (Addr.mk b14 0 none))) ∧ ρ 10 = (Sl.v r33) ∧ ρ 29 = (Sl.v x21) ∧ ρ 30 = (Value.int .i64 (x21.len : Int)) ∧ ρ 31 = (Value.int .i64 l22.2) ∧ True) ⟨e4, e5, e6, e7, e9, rfl, e29, e30, e31, trivial⟩ ?_
      rintro ρ ⟨e4, e5, e6, e7, e9, e10, e29, e30, e31, -⟩
      refine wpC_region ?_
      refine wpR_val (v := (Value.int .i64 (IntKind.i64.wrap (l22.2 + 1)))) (w' := w13) rfl rfl rfl (x_add rfl e31 rfl) ?_
      refine wpR_val (v := (Value.int .i64 (IntKind.i64.wrap (l22.2 + 1)))) (w' := w13) rfl rfl rfl (x_move (v := (Value.int .i64 (IntKind.i64.wrap (l22.2 + 1)))) rfl rfl) ?_
      refine wpR_nil ?_
      exact ⟨(r33, IntKind.i64.wrap (l22.2 + 1)), ⟨e10, rfl, e4, e5, e6, e7, e9, e29, e30, trivial⟩, h⟩
    · replace h := h.2 hc23
      refine wpC_exit ?_
      refine wpC_seq ?_
      refine wpC_cut (fun ρ => ρ 4 = (Value.pointer (some (Addr.mk b1 0 none))) ∧ ρ 5 = (Value.pointer (some (Addr.mk b2 0 none))) ∧ ρ 6 = (Value.pointer (some (Addr.mk b3 0 none))) ∧ ρ 7 = (Value.pointer (some (Addr.mk b4 0 none))) ∧ ρ 9 = (Value.pointer (some (Addr.mk b14 0 none))) ∧ ρ 10 = (Sl.v l22.1) ∧ True) ⟨e4, e5, e6, e7, e9, e10, trivial⟩ ?_
      rintro ρ ⟨e4, e5, e6, e7, e9, e10, -⟩
      refine wpC_region ?_
      refine wpR_val (v := (Sl.v l22.1)) (w' := w9) rfl rfl rfl (x_move (v := (Sl.v l22.1)) rfl e10) ?_
      refine wpR_val (v := (Value.func (.func 27) #[] (List.toArray [(Value.pointer (some (Addr.mk b3 0 none))), (Value.pointer (some (Addr.mk b1 0 none))), (Value.pointer (some (Addr.mk b2 0 none))), (Value.pointer (some (Addr.mk b14 0 none))), (Value.pointer (some (Addr.mk b4 0 none)))]))) (w' := w9) rfl rfl rfl (x_makeFunc (vs := [(Value.pointer (some (Addr.mk b3 0 none))), (Value.pointer (some (Addr.mk b1 0 none))), (Value.pointer (some (Addr.mk b2 0 none))), (Value.pointer (some (Addr.mk b14 0 none))), (Value.pointer (some (Addr.mk b4 0 none)))]) rfl (mapl_cons e6 (mapl_cons e4 (mapl_cons e5 (mapl_cons e9 (mapl_cons e7 mapl_nil)))))) ?_
      refine wpR_enter rfl rfl rfl (x_call (vs := [(Sl.v l22.1), (Value.func (.func 27) #[] (List.toArray [(Value.pointer (some (Addr.mk b3 0 none))), (Value.pointer (some (Addr.mk b1 0 none))), (Value.pointer (some (Addr.mk b2 0 none))), (Value.pointer (some (Addr.mk b14 0 none))), (Value.pointer (some (Addr.mk b4 0 none)))]))]) rfl rfl (mapl_cons rfl (mapl_cons rfl mapl_nil)) Try.func26 NN_26 NB_26) (Calls.mono h ?_)
      rintro _ w14 ⟨r34, rfl, h⟩
      refine ⟨_, rfl, ?_⟩
      refine wpR_val (v := (Value.bool r34)) (w' := w14) rfl rfl rfl (x_assign (v := (Value.bool r34)) rfl rfl) ?_
      refine wpR_nil ?_
      refine wpC_ret ?_
      exact ⟨.inl rfl, fun a ha => ⟨_, results_rep1 rfl ha rfl, r34, rfl, h⟩⟩

/-- linguaref18.To -/
def F12 (p0 : Sl) (p1 : Sl) (p2 : Int) (p3 : Int) (w0 : World) (K : Bool → World → Prop) : Prop :=
  cnd (((decide (p2 < 0)) || (decide (p3 < 0))) || (decide ((p1.len : Int) ≤ p3)))
    (
    K false w0
    )
    (
    ix p1 p3 12 fun p6 =>
    ld (Value.int .i64) (p6.add 0) w0 fun x7 =>
    callC Try.prog 23 #[(Value.int .i64 x7)] (fun (r : Int) => (Value.int .i64 r)) w0 fun r8 w1 =>
    cnd (decide (r8 = p2))
      (
      K true w1
      )
      (
      callC Try.prog 24 #[(Sl.v p1)] (fun (r : Sl) => (Sl.v r)) w1 fun r10 w2 =>
      lp (fun (next11 : Int → World → Prop) l11 w3 =>
        cnd (decide (l11 < (r10.len : Int)))
          (
          ix r10 l11 4 fun p13 =>
          ld (Value.int .i64) (p13.add 0) w3 fun x14 =>
          callC Try.prog 23 #[(Value.int .i64 x14)] (fun (r : Int) => (Value.int .i64 r)) w3 fun r15 w4 =>
          jn (fun J16 => cnd (decide (r15 = p2))
            (
            ix r10 l11 4 fun p18 =>
            ld (Value.int .i64) (p18.add 0) w4 fun x19 =>
            callC Try.prog 10 #[(Sl.v p0), (Sl.v p1), (Value.int .i64 x19), (Value.int .i64 p3)] (fun (r : Bool) => (Value.bool r)) w4 fun r20 w5 =>
            J16 r20 w5
            )
            (
            J16 false w4
            ))
          fun c21 w6 =>
          cnd (c21)
            (
            K true w6
            )
            (
            next11 (IntKind.i64.wrap (l11 + 1)) w6
            )
          )
          (
          K false w3
          )
      ) 0 w2
      )
    )
set_option maxRecDepth 100000 in
theorem D12 (p0 : Sl) (p1 : Sl) (p2 : Int) (p3 : Int) (w0 : World) (K : Bool → World → Prop) (h : F12 p0 p1 p2 p3 w0 K) : callC Try.prog 12 #[(Sl.v p0), (Sl.v p1), (Value.int .i64 p2), (Value.int .i64 p3)] (fun (r : Bool) => (Value.bool r)) w0 K := by
  unfold F12 at h
  refine calls_of_wpC Try.func12 rfl 58 rfl (by simp) ?_
  intro ρ hρ
  have e0 : ρ 0 = (Sl.v p0) := hρ 0
  have e1 : ρ 1 = (Sl.v p1) := hρ 1
  have e2 : ρ 2 = (Value.int .i64 p2) := hρ 2
  have e3 : ρ 3 = (Value.int .i64 p3) := hρ 3
  clear hρ
  refine wpC_seq ?_
  refine wpC_region ?_
  refine wpR_val (v := (Value.bool false)) (w' := w0) rfl rfl rfl (x_assign (v := (Value.bool false)) rfl rfl) ?_
  refine wpR_nil ?_
  refine wpC_seq ?_
  refine wpC_seq ?_
  refine wpC_cut (fun ρ => ρ 0 = (Sl.v p0) ∧ ρ 1 = (Sl.v p1) ∧ ρ 2 = (Value.int .i64 p2) ∧ ρ 3 = (Value.int .i64 p3) ∧ True) ⟨e0, e1, e2, e3, trivial⟩ ?_
  rintro ρ ⟨e0, e1, e2, e3, -⟩
  refine wpC_region ?_
  refine wpR_val (v := (Value.int .i64 p2)) (w' := w0) rfl rfl rfl (x_move (v := (Value.int .i64 p2)) rfl e2) ?_
  refine wpR_val (v := (Value.bool (decide (p2 < 0)))) (w' := w0) rfl rfl rfl (x_lss rfl rfl rfl) ?_
  refine wpR_val (v := (Value.bool (decide (p2 < 0)))) (w' := w0) rfl rfl rfl (x_move (v := (Value.bool (decide (p2 < 0)))) rfl rfl) ?_
  refine wpR_joinJ 3 (fun (_ : Unit) ρ => ρ 16 = Value.bool ((decide (p2 < 0)) || (decide (p3 < 0))) ∧ ρ 0 = (Sl.v p0) ∧ ρ 1 = (Sl.v p1) ∧ ρ 2 = (Value.int .i64 p2) ∧ ρ 3 = (Value.int .i64 p3) ∧ True) (fun _ w => w0 = w) ?_ ?_
  · clear h
    rcases Bool.eq_false_or_eq_true (decide (p2 < 0)) with hc2 | hc2
    · skip
      refine wpR_pass (wantN rfl rfl rfl hc2) rfl rfl ?_
      refine wpR_pass (wantN rfl rfl rfl hc2) rfl rfl ?_
      refine wpR_val (v := (Value.bool true)) (w' := w0) rfl rfl rfl (x_pickT (v := (Value.bool true)) rfl rfl hc2 rfl) ?_
      refine wpR_nil ?_
      exact ⟨(), ⟨(by rw [hc2]; rfl), e0, e1, e2, e3, trivial⟩, rfl⟩
    · skip
      refine wpR_val (v := (Value.int .i64 p3)) (w' := w0) (wantG rfl rfl rfl hc2) rfl rfl (x_move (v := (Value.int .i64 p3)) rfl e3) ?_
      refine wpR_val (v := (Value.bool (decide (p3 < 0)))) (w' := w0) (wantG rfl rfl rfl hc2) rfl rfl (x_lss rfl rfl rfl) ?_
      refine wpR_val (v := (Value.bool (decide (p3 < 0)))) (w' := w0) rfl rfl rfl (x_pickF (v := (Value.bool (decide (p3 < 0)))) rfl rfl hc2 rfl) ?_
      refine wpR_nil ?_
      exact ⟨(), ⟨(by rw [hc2]; rfl), e0, e1, e2, e3, trivial⟩, rfl⟩
  rintro _ ρ wj ⟨e16, e0, e1, e2, e3, -⟩ rfl
  refine wpR_val (v := (Value.bool ((decide (p2 < 0)) || (decide (p3 < 0))))) (w' := w0) rfl rfl rfl (x_move (v := (Value.bool ((decide (p2 < 0)) || (decide (p3 < 0))))) rfl e16) ?_
  refine wpR_joinJ 5 (fun (_ : Unit) ρ => ρ 22 = Value.bool (((decide (p2 < 0)) || (decide (p3 < 0))) || (decide ((p1.len : Int) ≤ p3))) ∧ ρ 0 = (Sl.v p0) ∧ ρ 1 = (Sl.v p1) ∧ ρ 2 = (Value.int .i64 p2) ∧ ρ 3 = (Value.int .i64 p3) ∧ True) (fun _ w => w0 = w) ?_ ?_
  · clear h
    rcases Bool.eq_false_or_eq_true ((decide (p2 < 0)) || (decide (p3 < 0))) with hc4 | hc4
    · skip
      refine wpR_pass (wantN rfl rfl rfl hc4) rfl rfl ?_
      refine wpR_pass (wantN rfl rfl rfl hc4) rfl rfl ?_
      refine wpR_pass (wantN rfl rfl rfl hc4) rfl rfl ?_
      refine wpR_pass (wantN rfl rfl rfl hc4) rfl rfl ?_
      refine wpR_val (v := (Value.bool true)) (w' := w0) rfl rfl rfl (x_pickT (v := (Value.bool true)) rfl rfl hc4 rfl) ?_
      refine wpR_nil ?_
      exact ⟨(), ⟨(by rw [hc4]; rfl), e0, e1, e2, e3, trivial⟩, rfl⟩
    · skip
      refine wpR_val (v := (Value.int .i64 p3)) (w' := w0) (wantG rfl rfl rfl hc4) rfl rfl (x_move (v := (Value.int .i64 p3)) rfl e3) ?_
      refine wpR_val (v := (Sl.v p1)) (w' := w0) (wantG rfl rfl rfl hc4) rfl rfl (x_move (v := (Sl.v p1)) rfl e1) ?_
      refine wpR_val (v := (Value.int .i64 (p1.len : Int))) (w' := w0) (wantG rfl rfl rfl hc4) rfl rfl (x_lenS (s := p1) rfl rfl isSliceT_23) ?_
      refine wpR_val (v := (Value.bool (decide ((p1.len : Int) ≤ p3)))) (w' := w0) (wantG rfl rfl rfl hc4) rfl rfl (x_geq rfl rfl rfl) ?_
      refine wpR_val (v := (Value.bool (decide ((p1.len : Int) ≤ p3)))) (w' := w0) rfl rfl rfl (x_pickF (v := (Value.bool (decide ((p1.len : Int) ≤ p3)))) rfl rfl hc4 rfl) ?_
      refine wpR_nil ?_
      exact ⟨(), ⟨(by rw [hc4]; rfl), e0, e1, e2, e3, trivial⟩, rfl⟩
  rintro _ ρ wj ⟨e22, e0, e1, e2, e3, -⟩ rfl
  refine wpR_nil ?_
  refine wpC_cond (b := ((decide (p2 < 0)) || (decide (p3 < 0))) || (decide ((p1.len : Int) ≤ p3))) e22 (fun hc5 => ?_) (fun hc5 => ?_)
  · replace h := h.1 hc5
    refine wpC_seq ?_
    refine wpC_region ?_
    refine wpR_val (v := (Value.bool false)) (w' := w0) rfl rfl rfl (x_assign (v := (Value.bool false)) rfl rfl) ?_
    refine wpR_nil ?_
    refine wpC_ret ?_
    exact ⟨.inl rfl, fun a ha => ⟨_, results_rep1 rfl ha rfl, false, rfl, h⟩⟩
  · replace h := h.2 hc5
    refine wpC_skip ?_
    refine wpC_seq ?_
    refine wpC_seq ?_
    refine wpC_region ?_
    refine wpR_val (v := (Sl.v p1)) (w' := w0) rfl rfl rfl (x_move (v := (Sl.v p1)) rfl e1) ?_
    refine wpR_val (v := (Value.int .i64 p3)) (w' := w0) rfl rfl rfl (x_move (v := (Value.int .i64 p3)) rfl e3) ?_
    obtain ⟨q6, z6, r6, h⟩ := h
    generalize hp6 : z6.add ((p3 : Int).toNat * 12) = p6 at h
    refine wpR_val (v := (Value.pointer (some p6))) (w' := w0) rfl rfl rfl ((x_indexAddr (s := p1) rfl rfl rfl ES_23 q6 r6).trans (by rw [hp6])) ?_
    refine wpR_val (v := (Value.pointer (some (p6.add 0)))) (w' := w0) rfl rfl rfl (x_fieldAddr rfl rfl FA_41_0) ?_
    obtain ⟨x7, q7, h⟩ := h
    refine wpR_val (v := (Value.int .i64 x7)) (w' := w0) rfl rfl rfl (x_load1 rfl rfl SH_3 q7) ?_
    refine wpR_enter rfl rfl rfl (x_call (vs := [(Value.int .i64 x7)]) rfl rfl (mapl_cons rfl mapl_nil) Try.func23 NN_23 NB_23) (Calls.mono h ?_)
    rintro _ w1 ⟨r8, rfl, h⟩
    refine ⟨_, rfl, ?_⟩
    refine wpR_val (v := (Value.int .i64 p2)) (w' := w1) rfl rfl rfl (x_move (v := (Value.int .i64 p2)) rfl e2) ?_
    refine wpR_val (v := (Value.bool (decide (r8 = p2)))) (w' := w1) rfl rfl rfl (x_eql rfl rfl rfl) ?_
    refine wpR_nil ?_
    refine wpC_cond (b := decide (r8 = p2)) rfl (fun hc9 => ?_) (fun hc9 => ?_)
    · replace h := h.1 hc9
      refine wpC_seq ?_
      refine wpC_cut (fun ρ => True) trivial ?_
      rintro ρ -
      refine wpC_region ?_
      refine wpR_val (v := (Value.bool true)) (w' := w1) rfl rfl rfl (x_assign (v := (Value.bool true)) rfl rfl) ?_
      refine wpR_nil ?_
      refine wpC_ret ?_
      exact ⟨.inl rfl, fun a ha => ⟨_, results_rep1 rfl ha rfl, true, rfl, h⟩⟩
    · replace h := h.2 hc9
      refine wpC_skip ?_
      refine wpC_seq ?_
      refine wpC_cut (fun ρ => ρ 0 = (Sl.v p0) ∧ ρ 1 = (Sl.v p1) ∧ ρ 2 = (Value.int .i64 p2) ∧ ρ 3 = (Value.int .i64 p3) ∧ True) ⟨e0, e1, e2, e3, trivial⟩ ?_
      rintro ρ ⟨e0, e1, e2, e3, -⟩
      refine wpC_region ?_
      refine wpR_val (v := (Sl.v p1)) (w' := w1) rfl rfl rfl (x_move (v := (Sl.v p1)) rfl e1) ?_
      refine wpR_enter rfl rfl rfl (x_call (vs := [(Sl.v p1)]) rfl rfl (mapl_cons rfl mapl_nil) Try.func24 NN_24 NB_24) (Calls.mono h ?_)
      rintro _ w2 ⟨r10, rfl, h⟩
      refine ⟨_, rfl, ?_⟩
      refine wpR_val (v := (Sl.v r10)) (w' := w2) rfl rfl rfl (x_assign (v := (Sl.v r10)) rfl rfl) ?_
      refine wpR_nil ?_
      refine wpC_seq ?_
      refine wpC_seq ?_
      refine wpC_cut (fun ρ => ρ 0 = (Sl.v p0) ∧ ρ 1 = (Sl.v p1) ∧ ρ 2 = (Value.int .i64 p2) ∧ ρ 3 = (Value.int .i64 p3) ∧ ρ 9 = (Sl.v r10) ∧ True) ⟨e0, e1, e2, e3, rfl, trivial⟩ ?_
      rintro ρ ⟨e0, e1, e2, e3, e9, -⟩
      refine wpC_region ?_
      refine wpR_val (v := (Value.int .i64 0)) (w' := w2) rfl rfl rfl (x_assign (v := (Value.int .i64 0)) rfl rfl) ?_
      refine wpR_nil ?_
      refine wpC_block ?_
      obtain ⟨I11, μ11, hI11, hr11⟩ := h
      refine wpC_loop (fun (x : Int) ρ => ρ 10 = (Value.int .i64 x) ∧ ρ 0 = (Sl.v p0) ∧ ρ 1 = (Sl.v p1) ∧ ρ 2 = (Value.int .i64 p2) ∧ ρ 3 = (Value.int .i64 p3) ∧ ρ 9 = (Sl.v r10) ∧ True) I11 μ11 0 ⟨rfl, e0, e1, e2, e3, e9, trivial⟩ hI11 ?_
      rintro l11 ρ w3 ⟨e10, e0, e1, e2, e3, e9, -⟩ h
      replace h := hr11 l11 w3 h
      clear hr11 hI11
      refine wpC_seq ?_
      refine wpC_seq ?_
      refine wpC_region ?_
      refine wpR_val (v := (Value.int .i64 l11)) (w' := w3) rfl rfl rfl (x_move (v := (Value.int .i64 l11)) rfl e10) ?_
      refine wpR_val (v := (Sl.v r10)) (w' := w3) rfl rfl rfl (x_move (v := (Sl.v r10)) rfl e9) ?_
      refine wpR_val (v := (Value.int .i64 (r10.len : Int))) (w' := w3) rfl rfl rfl (x_lenS (s := r10) rfl rfl isSliceT_37) ?_
      refine wpR_val (v := (Value.bool (decide (l11 < (r10.len : Int))))) (w' := w3) rfl rfl rfl (x_lss rfl rfl rfl) ?_
      refine wpR_nil ?_
      refine wpC_cond (b := decide (l11 < (r10.len : Int))) rfl (fun hc12 => ?_) (fun hc12 => ?_)
      · replace h := h.1 hc12
        refine wpC_skip ?_
        refine wpC_seq ?_
        refine wpC_block ?_
        refine wpC_seq ?_
        refine wpC_cut (fun ρ => ρ 0 = (Sl.v p0) ∧ ρ 1 = (Sl.v p1) ∧ ρ 2 = (Value.int .i64 p2) ∧ ρ 3 = (Value.int .i64 p3) ∧ ρ 9 = (Sl.v r10) ∧ ρ 10 = (Value.int .i64 l11) ∧ True) ⟨e0, e1, e2, e3, e9, e10, trivial⟩ ?_
        rintro ρ ⟨e0, e1, e2, e3, e9, e10, -⟩
        refine wpC_region ?_
        refine wpR_val (v := (Sl.v r10)) (w' := w3) rfl rfl rfl (x_move (v := (Sl.v r10)) rfl e9) ?_
        refine wpR_val (v := (Value.int .i64 l11)) (w' := w3) rfl rfl rfl (x_move (v := (Value.int .i64 l11)) rfl e10) ?_
        obtain ⟨q13, z13, r13, h⟩ := h
        generalize hp13 : z13.add ((l11 : Int).toNat * 4) = p13 at h
        refine wpR_val (v := (Value.pointer (some p13))) (w' := w3) rfl rfl rfl ((x_indexAddr (s := r10) rfl rfl rfl ES_37 q13 r13).trans (by rw [hp13])) ?_
        refine wpR_val (v := (Value.pointer (some (p13.add 0)))) (w' := w3) rfl rfl rfl (x_fieldAddr rfl rfl FA_43_0) ?_
        obtain ⟨x14, q14, h⟩ := h
        refine wpR_val (v := (Value.int .i64 x14)) (w' := w3) rfl rfl rfl (x_load1 rfl rfl SH_3 q14) ?_
        refine wpR_enter rfl rfl rfl (x_call (vs := [(Value.int .i64 x14)]) rfl rfl (mapl_cons rfl mapl_nil) Try.func23 NN_23 NB_23) (Calls.mono h ?_)
        rintro _ w4 ⟨r15, rfl, h⟩
        refine ⟨_, rfl, ?_⟩
        refine wpR_val (v := (Value.int .i64 p2)) (w' := w4) rfl rfl rfl (x_move (v := (Value.int .i64 p2)) rfl e2) ?_
        refine wpR_val (v := (Value.bool (decide (r15 = p2)))) (w' := w4) rfl rfl rfl (x_eql rfl rfl rfl) ?_
        refine wpR_val (v := (Value.bool (decide (r15 = p2)))) (w' := w4) rfl rfl rfl (x_move (v := (Value.bool (decide (r15 = p2)))) rfl rfl) ?_
        obtain ⟨J16, h, hk⟩ := h
        refine wpR_joinJ 10 (fun x ρ => ρ 57 = Value.bool x ∧ ρ 0 = (Sl.v p0) ∧ ρ 1 = (Sl.v p1) ∧ ρ 2 = (Value.int .i64 p2) ∧ ρ 3 = (Value.int .i64 p3) ∧ ρ 9 = (Sl.v r10) ∧ ρ 10 = (Value.int .i64 l11) ∧ True) (J16) ?_ ?_
        · clear hk
          rcases Bool.eq_false_or_eq_true (decide (r15 = p2)) with hc17 | hc17
          · replace h := h.1 hc17
            refine wpR_val (v := (Sl.v p0)) (w' := w4) (wantG rfl rfl rfl hc17) rfl rfl (x_move (v := (Sl.v p0)) rfl e0) ?_
            refine wpR_val (v := (Sl.v p1)) (w' := w4) (wantG rfl rfl rfl hc17) rfl rfl (x_move (v := (Sl.v p1)) rfl e1) ?_
            refine wpR_val (v := (Sl.v r10)) (w' := w4) (wantG rfl rfl rfl hc17) rfl rfl (x_move (v := (Sl.v r10)) rfl e9) ?_
            refine wpR_val (v := (Value.int .i64 l11)) (w' := w4) (wantG rfl rfl rfl hc17) rfl rfl (x_move (v := (Value.int .i64 l11)) rfl e10) ?_
            obtain ⟨q18, z18, r18, h⟩ := h
            generalize hp18 : z18.add ((l11 : Int).toNat * 4) = p18 at h
            refine wpR_val (v := (Value.pointer (some p18))) (w' := w4) (wantG rfl rfl rfl hc17) rfl rfl ((x_indexAddr (s := r10) rfl rfl rfl ES_37 q18 r18).trans (by rw [hp18])) ?_
            refine wpR_val (v := (Value.pointer (some (p18.add 0)))) (w' := w4) (wantG rfl rfl rfl hc17) rfl rfl (x_fieldAddr rfl rfl FA_43_0) ?_
            obtain ⟨x19, q19, h⟩ := h
            refine wpR_val (v := (Value.int .i64 x19)) (w' := w4) (wantG rfl rfl rfl hc17) rfl rfl (x_load1 rfl rfl SH_3 q19) ?_
            refine wpR_val (v := (Value.int .i64 p3)) (w' := w4) (wantG rfl rfl rfl hc17) rfl rfl (x_move (v := (Value.int .i64 p3)) rfl e3) ?_
            refine wpR_enter (wantG rfl rfl rfl hc17) rfl rfl (x_call (vs := [(Sl.v p0), (Sl.v p1), (Value.int .i64 x19), (Value.int .i64 p3)]) rfl rfl (mapl_cons rfl (mapl_cons rfl (mapl_cons rfl (mapl_cons rfl mapl_nil)))) Try.func10 NN_10 NB_10) (Calls.mono h ?_)
            rintro _ w5 ⟨r20, rfl, h⟩
            refine ⟨_, rfl, ?_⟩
            refine wpR_val (v := (Value.bool r20)) (w' := w5) rfl rfl rfl (x_pickT (v := (Value.bool r20)) rfl rfl hc17 rfl) ?_
            refine wpR_nil ?_
            exact ⟨r20, ⟨rfl, e0, e1, e2, e3, e9, e10, trivial⟩, h⟩
          · replace h := h.2 hc17
            refine wpR_pass (wantN rfl rfl rfl hc17) rfl rfl ?_
            refine wpR_pass (wantN rfl rfl rfl hc17) rfl rfl ?_
            refine wpR_pass (wantN rfl rfl rfl hc17) rfl rfl ?_
            refine wpR_pass (wantN rfl rfl rfl hc17) rfl rfl ?_
            refine wpR_pass (wantN rfl rfl rfl hc17) rfl rfl ?_
            refine wpR_pass (wantN rfl rfl rfl hc17) rfl rfl ?_
            refine wpR_pass (wantN rfl rfl rfl hc17) rfl rfl ?_
            refine wpR_pass (wantN rfl rfl rfl hc17) rfl rfl ?_
            refine wpR_pass (wantN rfl rfl rfl hc17) rfl rfl ?_
            refine wpR_val (v := (Value.bool false)) (w' := w4) rfl rfl rfl (x_pickF (v := (Value.bool false)) rfl rfl hc17 rfl) ?_
            refine wpR_nil ?_
            exact ⟨false, ⟨rfl, e0, e1, e2, e3, e9, e10, trivial⟩, h⟩
        clear h
        rintro c21 ρ w6 ⟨e57, e0, e1, e2, e3, e9, e10, -⟩ h
        replace h := hk c21 w6 h
        clear hk
        refine wpR_nil ?_
        refine wpC_cond (b := c21) e57 (fun hc22 => ?_) (fun hc22 => ?_)
        · replace h := h.1 hc22
          refine wpC_seq ?_
          refine wpC_region ?_
          refine wpR_val (v := (Value.bool true)) (w' := w6) rfl rfl rfl (x_assign (v := (Value.bool true)) rfl rfl) ?_
          refine wpR_nil ?_
          refine wpC_ret ?_
          exact ⟨.inl rfl, fun a ha => ⟨_, results_rep1 rfl ha rfl, true, rfl, h⟩⟩
        · replace h := h.2 hc22
          refine wpC_skip ?_
          refine wpC_region ?_
          refine wpR_val (v := (Value.int .i64 l11)) (w' := w6) rfl rfl rfl (x_move (v := (Value.int .i64 l11)) rfl e10) ?_
          refine wpR_val (v := (Value.int .i64 (IntKind.i64.wrap (l11 + 1)))) (w' := w6) rfl rfl rfl (x_add rfl rfl rfl) ?_
          refine wpR_val (v := (Value.int .i64 (IntKind.i64.wrap (l11 + 1)))) (w' := w6) rfl rfl rfl (x_assign (v := (Value.int .i64 (IntKind.i64.wrap (l11 + 1)))) rfl rfl) ?_
          refine wpR_nil ?_
          exact ⟨IntKind.i64.wrap (l11 + 1), ⟨rfl, e0, e1, e2, e3, e9, trivial⟩, h⟩
      · replace h := h.2 hc12
        refine wpC_exit ?_
        refine wpC_seq ?_
        refine wpC_cut (fun ρ => True) trivial ?_
        rintro ρ -
        refine wpC_region ?_
        refine wpR_val (v := (Value.bool false)) (w' := w3) rfl rfl rfl (x_assign (v := (Value.bool false)) rfl rfl) ?_
        refine wpR_nil ?_
        refine wpC_ret ?_
        exact ⟨.inl rfl, fun a ha => ⟨_, results_rep1 rfl ha rfl, false, rfl, h⟩⟩

/-- linguaref10.Ints -/
def F13 (p0 : Sl) (p1 : Sl) (w0 : World) (K : Bool → World → Prop) : Prop :=
  cnd (!decide ((p0.len : Int) = (p1.len : Int)))
    (
    K false w0
    )
    (
    lp (fun (next2 : Int → World → Prop) l2 w1 =>
      cnd (decide (l2 < (p0.len : Int)))
        (
        jn (fun (J5 : Bool → World → Prop) => tk w1 fun w2 =>
          ix p0 l2 1 fun p6 =>
          ld (Value.int .i64) p6 w2 fun x7 =>
          ix p1 l2 1 fun p8 =>
          ld (Value.int .i64) p8 w2 fun x9 =>
          J5 (!decide (x7 = x9)) w2
        )
        fun l10 w3 =>
        cnd (l10)
          (
          K false w3
          )
          (
          next2 (IntKind.i64.wrap (l2 + 1)) w3
          )
        )
        (
        K true w1
        )
    ) 0 w0
    )
set_option maxRecDepth 100000 in
theorem D13 (p0 : Sl) (p1 : Sl) (w0 : World) (K : Bool → World → Prop) (h : F13 p0 p1 w0 K) : callC Try.prog 13 #[(Sl.v p0), (Sl.v p1)] (fun (r : Bool) => (Value.bool r)) w0 K := by
  unfold F13 at h
  refine calls_of_wpC Try.func13 rfl 26 rfl (by simp) ?_
  intro ρ hρ
  have e0 : ρ 0 = (Sl.v p0) := hρ 0
  have e1 : ρ 1 = (Sl.v p1) := hρ 1
  clear hρ
  refine wpC_seq ?_
  refine wpC_region ?_
  refine wpR_val (v := (Value.bool false)) (w' := w0) rfl rfl rfl (x_assign (v := (Value.bool false)) rfl rfl) ?_
  refine wpR_nil ?_
  refine wpC_seq ?_
  refine wpC_seq ?_
  refine wpC_cut (fun ρ => ρ 0 = (Sl.v p0) ∧ ρ 1 = (Sl.v p1) ∧ True) ⟨e0, e1, trivial⟩ ?_
  rintro ρ ⟨e0, e1, -⟩
  refine wpC_region ?_
  refine wpR_val (v := (Sl.v p0)) (w' := w0) rfl rfl rfl (x_move (v := (Sl.v p0)) rfl e0) ?_
  refine wpR_val (v := (Value.int .i64 (p0.len : Int))) (w' := w0) rfl rfl rfl (x_lenS (s := p0) rfl rfl isSliceT_28) ?_
  refine wpR_val (v := (Sl.v p1)) (w' := w0) rfl rfl rfl (x_move (v := (Sl.v p1)) rfl e1) ?_
  refine wpR_val (v := (Value.int .i64 (p1.len : Int))) (w' := w0) rfl rfl rfl (x_lenS (s := p1) rfl rfl isSliceT_28) ?_
  refine wpR_val (v := (Value.bool (!decide ((p0.len : Int) = (p1.len : Int))))) (w' := w0) rfl rfl rfl (x_neq rfl rfl rfl) ?_
  refine wpR_nil ?_
  refine wpC_cond (b := !decide ((p0.len : Int) = (p1.len : Int))) rfl (fun hc1 => ?_) (fun hc1 => ?_)
  · replace h := h.1 hc1
    refine wpC_seq ?_
    refine wpC_cut (fun ρ => True) trivial ?_
    rintro ρ -
    refine wpC_region ?_
    refine wpR_val (v := (Value.bool false)) (w' := w0) rfl rfl rfl (x_assign (v := (Value.bool false)) rfl rfl) ?_
    refine wpR_nil ?_
    refine wpC_ret ?_
    exact ⟨.inl rfl, fun a ha => ⟨_, results_rep1 rfl ha rfl, false, rfl, h⟩⟩
  · replace h := h.2 hc1
    refine wpC_skip ?_
    refine wpC_seq ?_
    refine wpC_seq ?_
    refine wpC_cut (fun ρ => ρ 0 = (Sl.v p0) ∧ ρ 1 = (Sl.v p1) ∧ True) ⟨e0, e1, trivial⟩ ?_
    rintro ρ ⟨e0, e1, -⟩
    refine wpC_region ?_
    refine wpR_val (v := (Value.int .i64 0)) (w' := w0) rfl rfl rfl (x_assign (v := (Value.int .i64 0)) rfl rfl) ?_
    refine wpR_nil ?_
    refine wpC_block ?_
    obtain ⟨I2, μ2, hI2, hr2⟩ := h
    refine wpC_loop (fun (x : Int) ρ => ρ 5 = (Value.int .i64 x) ∧ ρ 0 = (Sl.v p0) ∧ ρ 1 = (Sl.v p1) ∧ True) I2 μ2 0 ⟨rfl, e0, e1, trivial⟩ hI2 ?_
    rintro l2 ρ w1 ⟨e5, e0, e1, -⟩ h
    replace h := hr2 l2 w1 h
    clear hr2 hI2
    refine wpC_seq ?_
    refine wpC_seq ?_
    refine wpC_region ?_
    refine wpR_val (v := (Value.int .i64 l2)) (w' := w1) rfl rfl rfl (x_move (v := (Value.int .i64 l2)) rfl e5) ?_
    refine wpR_val (v := (Sl.v p0)) (w' := w1) rfl rfl rfl (x_move (v := (Sl.v p0)) rfl e0) ?_
    refine wpR_val (v := (Value.int .i64 (p0.len : Int))) (w' := w1) rfl rfl rfl (x_lenS (s := p0) rfl rfl isSliceT_28) ?_
    refine wpR_val (v := (Value.bool (decide (l2 < (p0.len : Int))))) (w' := w1) rfl rfl rfl (x_lss rfl rfl rfl) ?_
    refine wpR_nil ?_
    refine wpC_cond (b := decide (l2 < (p0.len : Int))) rfl (fun hc3 => ?_) (fun hc3 => ?_)
    · replace h := h.1 hc3
      refine wpC_skip ?_
      refine wpC_seq ?_
      refine wpC_block ?_
      refine wpC_seq ?_
      refine wpC_cut (fun ρ => ρ 0 = (Sl.v p0) ∧ ρ 1 = (Sl.v p1) ∧ ρ 5 = (Value.int .i64 l2) ∧ True) ⟨e0, e1, e5, trivial⟩ ?_
      rintro ρ ⟨e0, e1, e5, -⟩
      obtain ⟨J5, h, hk⟩ := h
      refine wpC_drawJ (by kernel_rfl) (fun (x : Bool) ρ => ρ 25 = (Value.bool x) ∧ ρ 0 = (Sl.v p0) ∧ ρ 1 = (Sl.v p1) ∧ ρ 5 = (Value.int .i64 l2) ∧ True) J5 ?_ ?_
      · clear hk
        unfold tk at h
        generalize w1.drew = w2 at h ⊢
        refine wpD_take (v := (Sl.v p0)) 0 (fun _ => True) rfl (by kernel_rfl) (by kernel_rfl) (by kernel_rfl) rfl rfl rfl trivial (fun w _ => (x_move (v := (Sl.v p0)) rfl e0)) ?_
        refine wpD_take (v := (Value.int .i64 l2)) 1 (fun _ => True) rfl (by kernel_rfl) (by kernel_rfl) (by kernel_rfl) rfl rfl rfl trivial (fun w _ => (x_move (v := (Value.int .i64 l2)) rfl e5)) ?_
        obtain ⟨q6, z6, r6, h⟩ := h
        generalize hp6 : z6.add ((l2 : Int).toNat * 1) = p6 at h
        refine wpD_take (v := (Value.pointer (some p6))) 2 (fun _ => True) rfl (by kernel_rfl) (by kernel_rfl) (by kernel_rfl) rfl rfl rfl trivial (fun w _ => ((x_indexAddr (s := p0) rfl rfl rfl ES_28 q6 r6).trans (by rw [hp6]))) ?_
        obtain ⟨x7, q7, h⟩ := h
        refine wpD_take (v := (Value.int .i64 x7)) 3 (fun w => w.cell? p6 = some (Value.int .i64 x7)) rfl (by kernel_rfl) (by kernel_rfl) (by kernel_rfl) rfl rfl rfl q7 (fun w q7 => (x_load1 rfl rfl SH_3 q7)) ?_
        refine wpD_take (v := (Sl.v p1)) 4 (fun _ => True) rfl (by kernel_rfl) (by kernel_rfl) (by kernel_rfl) rfl rfl rfl trivial (fun w _ => (x_move (v := (Sl.v p1)) rfl e1)) ?_
        refine wpD_take (v := (Value.int .i64 l2)) 5 (fun _ => True) rfl (by kernel_rfl) (by kernel_rfl) (by kernel_rfl) rfl rfl rfl trivial (fun w _ => (x_move (v := (Value.int .i64 l2)) rfl e5)) ?_
        obtain ⟨q8, z8, r8, h⟩ := h
        generalize hp8 : z8.add ((l2 : Int).toNat * 1) = p8 at h
        refine wpD_take (v := (Value.pointer (some p8))) 6 (fun _ => True) rfl (by kernel_rfl) (by kernel_rfl) (by kernel_rfl) rfl rfl rfl trivial (fun w _ => ((x_indexAddr (s := p1) rfl rfl rfl ES_28 q8 r8).trans (by rw [hp8]))) ?_
        obtain ⟨x9, q9, h⟩ := h
        refine wpD_take (v := (Value.int .i64 x9)) 7 (fun w => w.cell? p8 = some (Value.int .i64 x9)) rfl (by kernel_rfl) (by kernel_rfl) (by kernel_rfl) rfl rfl rfl q9 (fun w q9 => (x_load1 rfl rfl SH_3 q9)) ?_
        refine wpD_take (v := (Value.bool (!decide (x7 = x9)))) 8 (fun _ => True) rfl (by kernel_rfl) (by kernel_rfl) (by kernel_rfl) rfl rfl rfl trivial (fun w _ => (x_neq rfl rfl rfl)) ?_
        exact wpD_done (by kernel_rfl) ⟨!decide (x7 = x9), ⟨rfl, e0, e1, e5, trivial⟩, h⟩
      clear h
      rintro l10 ρ w3 ⟨e25, e0, e1, e5, -⟩ h
      replace h := hk l10 w3 h
      clear hk
      refine wpC_cond (b := l10) e25 (fun hc11 => ?_) (fun hc11 => ?_)
      · replace h := h.1 hc11
        refine wpC_seq ?_
        refine wpC_region ?_
        refine wpR_val (v := (Value.bool false)) (w' := w3) rfl rfl rfl (x_assign (v := (Value.bool false)) rfl rfl) ?_
        refine wpR_nil ?_
        refine wpC_ret ?_
        exact ⟨.inl rfl, fun a ha => ⟨_, results_rep1 rfl ha rfl, false, rfl, h⟩⟩
      · replace h := h.2 hc11
        refine wpC_skip ?_
        refine wpC_region ?_
        refine wpR_val (v := (Value.int .i64 l2)) (w' := w3) rfl rfl rfl (x_move (v := (Value.int .i64 l2)) rfl e5) ?_
        refine wpR_val (v := (Value.int .i64 (IntKind.i64.wrap (l2 + 1)))) (w' := w3) rfl rfl rfl (x_add rfl rfl rfl) ?_
        refine wpR_val (v := (Value.int .i64 (IntKind.i64.wrap (l2 + 1)))) (w' := w3) rfl rfl rfl (x_assign (v := (Value.int .i64 (IntKind.i64.wrap (l2 + 1)))) rfl rfl) ?_
        refine wpR_nil ?_
        exact ⟨IntKind.i64.wrap (l2 + 1), ⟨rfl, e0, e1, trivial⟩, h⟩
    · replace h := h.2 hc3
      refine wpC_exit ?_
      refine wpC_seq ?_
      refine wpC_cut (fun ρ => True) trivial ?_
      rintro ρ -
      refine wpC_region ?_
      refine wpR_val (v := (Value.bool true)) (w' := w1) rfl rfl rfl (x_assign (v := (Value.bool true)) rfl rfl) ?_
      refine wpR_nil ?_
      refine wpC_ret ?_
      exact ⟨.inl rfl, fun a ha => ⟨_, results_rep1 rfl ha rfl, true, rfl, h⟩⟩

/-- sight.All -/
def F14 (p0 : Sl) (p1 : Sl) (p2 : Int) (w0 : World) (K : Sl → World → Prop) : Prop :=
  callC Try.prog 18 #[(Value.int .i64 p2)] (fun (r : Int) => (Value.int .i64 r)) w0 fun r1 w1 =>
  cnd (decide (r1 < 0))
    (
    K Sl.nil w1
    )
    (
    callC Try.prog 17 #[(Sl.v p1)] (fun (r : Sl) => (Sl.v r)) w1 fun r3 w2 =>
    lp (fun (next4 : (Sl × Int) → World → Prop) l4 w3 =>
      cnd (decide (l4.2 < (p1.len : Int)))
        (
        jn (fun (J6 : Sl → World → Prop) =>
          callC Try.prog 22 #[(Sl.v p0), (Sl.v p1), (Sl.v r3), (Value.int .i64 p2), (Value.int .i64 l4.2)] (fun (r : Bool) => (Value.bool r)) w3 fun r8 w5 =>
          cnd (r8)
            (
            nw 3 #[(Value.int .i64 l4.2)] w5 fun b10 w6 =>
            rn Try.prog (Builtin.append_ #[28, 28] 28 #[Sl.v l4.1, Sl.v (⟨some ⟨b10, 0, none⟩, 1, 1⟩ : Sl)]) Sl.v w6 fun r11 w7 =>
            J6 r11 w7
            )
            (
            J6 l4.1 w5
            )
        )
        fun l7 w4 =>
        next4 (l7, IntKind.i64.wrap (l4.2 + 1)) w4
        )
        (
        K l4.1 w3
        )
    ) (Sl.nil, 0) w2
    )
set_option maxRecDepth 100000 in
theorem D14 (p0 : Sl) (p1 : Sl) (p2 : Int) (w0 : World) (K : Sl → World → Prop) (h : F14 p0 p1 p2 w0 K) : callC Try.prog 14 #[(Sl.v p0), (Sl.v p1), (Value.int .i64 p2)] (fun (r : Sl) => (Sl.v r)) w0 K := by
  unfold F14 at h
  refine calls_of_wpC Try.func14 rfl 32 rfl (by simp) ?_
  intro ρ hρ
  have e0 : ρ 0 = (Sl.v p0) := hρ 0
  have e1 : ρ 1 = (Sl.v p1) := hρ 1
  have e2 : ρ 2 = (Value.int .i64 p2) := hρ 2
  clear hρ
  refine wpC_seq ?_
  refine wpC_region ?_
  refine wpR_val (v := (Sl.v Sl.nil)) (w' := w0) rfl rfl rfl (x_assign (v := (Sl.v Sl.nil)) rfl rfl) ?_
  refine wpR_nil ?_
  refine wpC_seq ?_
  refine wpC_seq ?_
  refine wpC_cut (fun ρ => ρ 0 = (Sl.v p0) ∧ ρ 1 = (Sl.v p1) ∧ ρ 2 = (Value.int .i64 p2) ∧ True) ⟨e0, e1, e2, trivial⟩ ?_
  rintro ρ ⟨e0, e1, e2, -⟩
  refine wpC_region ?_
  refine wpR_val (v := (Value.int .i64 p2)) (w' := w0) rfl rfl rfl (x_move (v := (Value.int .i64 p2)) rfl e2) ?_
  refine wpR_enter rfl rfl rfl (x_call (vs := [(Value.int .i64 p2)]) rfl rfl (mapl_cons rfl mapl_nil) Try.func18 NN_18 NB_18) (Calls.mono h ?_)
  rintro _ w1 ⟨r1, rfl, h⟩
  refine ⟨_, rfl, ?_⟩
  refine wpR_val (v := (Value.bool (decide (r1 < 0)))) (w' := w1) rfl rfl rfl (x_lss rfl rfl rfl) ?_
  refine wpR_nil ?_
  refine wpC_cond (b := decide (r1 < 0)) rfl (fun hc2 => ?_) (fun hc2 => ?_)
  · replace h := h.1 hc2
    refine wpC_seq ?_
    refine wpC_cut (fun ρ => True) trivial ?_
    rintro ρ -
    refine wpC_region ?_
    refine wpR_val (v := (Sl.v Sl.nil)) (w' := w1) rfl rfl rfl (x_assign (v := (Sl.v Sl.nil)) rfl rfl) ?_
    refine wpR_nil ?_
    refine wpC_ret ?_
    exact ⟨.inl rfl, fun a ha => ⟨_, results_rep1 rfl ha rfl, Sl.nil, rfl, h⟩⟩
  · replace h := h.2 hc2
    refine wpC_skip ?_
    refine wpC_seq ?_
    refine wpC_cut (fun ρ => ρ 0 = (Sl.v p0) ∧ ρ 1 = (Sl.v p1) ∧ ρ 2 = (Value.int .i64 p2) ∧ True) ⟨e0, e1, e2, trivial⟩ ?_
    rintro ρ ⟨e0, e1, e2, -⟩
    refine wpC_region ?_
    refine wpR_val (v := (Sl.v Sl.nil)) (w' := w1) rfl rfl rfl (x_assign (v := (Sl.v Sl.nil)) rfl rfl) ?_
    refine wpR_nil ?_
    refine wpC_seq ?_
    refine wpC_cut (fun ρ => ρ 0 = (Sl.v p0) ∧ ρ 1 = (Sl.v p1) ∧ ρ 2 = (Value.int .i64 p2) ∧ ρ 7 = (Sl.v Sl.nil) ∧ True) ⟨e0, e1, e2, rfl, trivial⟩ ?_
    rintro ρ ⟨e0, e1, e2, e7, -⟩
    refine wpC_region ?_
    refine wpR_val (v := (Sl.v p1)) (w' := w1) rfl rfl rfl (x_move (v := (Sl.v p1)) rfl e1) ?_
    refine wpR_enter rfl rfl rfl (x_call (vs := [(Sl.v p1)]) rfl rfl (mapl_cons rfl mapl_nil) Try.func17 NN_17 NB_17) (Calls.mono h ?_)
    rintro _ w2 ⟨r3, rfl, h⟩
    refine ⟨_, rfl, ?_⟩
    refine wpR_val (v := (Sl.v r3)) (w' := w2) rfl rfl rfl (x_assign (v := (Sl.v r3)) rfl rfl) ?_
    refine wpR_nil ?_
    refine wpC_seq ?_
    refine wpC_seq ?_
    refine wpC_cut (fun ρ => ρ 0 = (Sl.v p0) ∧ ρ 1 = (Sl.v p1) ∧ ρ 2 = (Value.int .i64 p2) ∧ ρ 7 = (Sl.v Sl.nil) ∧ ρ 8 = (Sl.v r3) ∧ True) ⟨e0, e1, e2, e7, rfl, trivial⟩ ?_
    rintro ρ ⟨e0, e1, e2, e7, e8, -⟩
    refine wpC_region ?_
    refine wpR_val (v := (Sl.v p1)) (w' := w2) rfl rfl rfl (x_move (v := (Sl.v p1)) rfl e1) ?_
    refine wpR_val (v := (Value.int .i64 (p1.len : Int))) (w' := w2) rfl rfl rfl (x_lenS (s := p1) rfl rfl isSliceT_23) ?_
    refine wpR_val (v := (Value.int .i64 0)) (w' := w2) rfl rfl rfl (x_move (v := (Value.int .i64 0)) rfl rfl) ?_
    refine wpR_nil ?_
    refine wpC_block ?_
    obtain ⟨I4, μ4, hI4, hr4⟩ := h
    refine wpC_loop (fun (x : Sl × Int) ρ => ρ 7 = (Sl.v x.1) ∧ ρ 17 = (Value.int .i64 x.2) ∧ ρ 0 = (Sl.v p0) ∧ ρ 1 = (Sl.v p1) ∧ ρ 2 = (Value.int .i64 p2) ∧ ρ 8 = (Sl.v r3) ∧ ρ 16 = (Value.int .i64 (p1.len : Int)) ∧ True) I4 μ4 (Sl.nil, 0) ⟨e7, rfl, e0, e1, e2, e8, rfl, trivial⟩ hI4 ?_
    rintro l4 ρ w3 ⟨e7, e17, e0, e1, e2, e8, e16, -⟩ h
    replace h := hr4 l4 w3 h
    clear hr4 hI4
    refine wpC_seq ?_
    refine wpC_region ?_
    refine wpR_val (v := (Value.bool (decide (l4.2 < (p1.len : Int))))) (w' := w3) rfl rfl rfl (x_lss rfl e17 e16) ?_
    refine wpR_nil ?_
    refine wpC_seq ?_
    refine wpC_cond (b := decide (l4.2 < (p1.len : Int))) rfl (fun hc5 => ?_) (fun hc5 => ?_)
    · replace h := h.1 hc5
      refine wpC_skip ?_
      obtain ⟨J6, h, hk⟩ := h
      refine wpC_seqJ (fun (x : Sl) ρ => ρ 7 = (Sl.v x) ∧ ρ 0 = (Sl.v p0) ∧ ρ 1 = (Sl.v p1) ∧ ρ 2 = (Value.int .i64 p2) ∧ ρ 8 = (Sl.v r3) ∧ ρ 16 = (Value.int .i64 (p1.len : Int)) ∧ ρ 17 = (Value.int .i64 l4.2) ∧ True) J6 ?_ ?_
      · clear hk
        refine wpC_block ?_
        refine wpC_seq ?_
        refine wpC_cut (fun ρ => ρ 0 = (Sl.v p0) ∧ ρ 1 = (Sl.v p1) ∧ ρ 2 = (Value.int .i64 p2) ∧ ρ 7 = (Sl.v l4.1) ∧ ρ 8 = (Sl.v r3) ∧ ρ 16 = (Value.int .i64 (p1.len : Int)) ∧ ρ 17 = (Value.int .i64 l4.2) ∧ True) ⟨e0, e1, e2, e7, e8, e16, e17, trivial⟩ ?_
        rintro ρ ⟨e0, e1, e2, e7, e8, e16, e17, -⟩
        refine wpC_region ?_
        refine wpR_val (v := (Value.int .i64 l4.2)) (w' := w3) rfl rfl rfl (x_move (v := (Value.int .i64 l4.2)) rfl e17) ?_
        refine wpR_val (v := (Value.int .i64 l4.2)) (w' := w3) rfl rfl rfl (x_assign (v := (Value.int .i64 l4.2)) rfl rfl) ?_
        refine wpR_nil ?_
        refine wpC_seq ?_
        refine wpC_cut (fun ρ => ρ 0 = (Sl.v p0) ∧ ρ 1 = (Sl.v p1) ∧ ρ 2 = (Value.int .i64 p2) ∧ ρ 7 = (Sl.v l4.1) ∧ ρ 8 = (Sl.v r3) ∧ ρ 9 = (Value.int .i64 l4.2) ∧ ρ 16 = (Value.int .i64 (p1.len : Int)) ∧ ρ 17 = (Value.int .i64 l4.2) ∧ True) ⟨e0, e1, e2, e7, e8, rfl, e16, e17, trivial⟩ ?_
        rintro ρ ⟨e0, e1, e2, e7, e8, e9, e16, e17, -⟩
        refine wpC_region ?_
        refine wpR_val (v := (Sl.v p0)) (w' := w3) rfl rfl rfl (x_move (v := (Sl.v p0)) rfl e0) ?_
        refine wpR_val (v := (Sl.v p1)) (w' := w3) rfl rfl rfl (x_move (v := (Sl.v p1)) rfl e1) ?_
        refine wpR_val (v := (Sl.v r3)) (w' := w3) rfl rfl rfl (x_move (v := (Sl.v r3)) rfl e8) ?_
        refine wpR_val (v := (Value.int .i64 p2)) (w' := w3) rfl rfl rfl (x_move (v := (Value.int .i64 p2)) rfl e2) ?_
        refine wpR_val (v := (Value.int .i64 l4.2)) (w' := w3) rfl rfl rfl (x_move (v := (Value.int .i64 l4.2)) rfl e9) ?_
        refine wpR_enter rfl rfl rfl (x_call (vs := [(Sl.v p0), (Sl.v p1), (Sl.v r3), (Value.int .i64 p2), (Value.int .i64 l4.2)]) rfl rfl (mapl_cons rfl (mapl_cons rfl (mapl_cons rfl (mapl_cons rfl (mapl_cons rfl mapl_nil))))) Try.func22 NN_22 NB_22) (Calls.mono h ?_)
        rintro _ w5 ⟨r8, rfl, h⟩
        refine ⟨_, rfl, ?_⟩
        refine wpR_nil ?_
        refine wpC_cond (b := r8) rfl (fun hc9 => ?_) (fun hc9 => ?_)
        · replace h := h.1 hc9
          refine wpC_cut (fun ρ => ρ 0 = (Sl.v p0) ∧ ρ 1 = (Sl.v p1) ∧ ρ 2 = (Value.int .i64 p2) ∧ ρ 7 = (Sl.v l4.1) ∧ ρ 8 = (Sl.v r3) ∧ ρ 9 = (Value.int .i64 l4.2) ∧ ρ 16 = (Value.int .i64 (p1.len : Int)) ∧ ρ 17 = (Value.int .i64 l4.2) ∧ True) ⟨e0, e1, e2, e7, e8, e9, e16, e17, trivial⟩ ?_
          rintro ρ ⟨e0, e1, e2, e7, e8, e9, e16, e17, -⟩
          refine wpC_region ?_
          refine wpR_val (v := (Sl.v l4.1)) (w' := w5) rfl rfl rfl (x_move (v := (Sl.v l4.1)) rfl e7) ?_
          refine wpR_val (v := (Value.int .i64 l4.2)) (w' := w5) rfl rfl rfl (x_move (v := (Value.int .i64 l4.2)) rfl e9) ?_
          obtain ⟨b10, hb10⟩ : ∃ u, u = w5.heap.size := ⟨_, rfl⟩
          obtain ⟨w6, hw10⟩ : ∃ u, u = w5.alloc (.cells #[(Value.int .i64 l4.2)] 3) := ⟨_, rfl⟩
          replace h := h b10 w6 hb10 hw10
          refine wpR_val (v := (Sl.v (⟨some ⟨b10, 0, none⟩, 1, 1⟩ : Sl))) (w' := w6) rfl rfl rfl ((x_buildSlice (qs := [(0, (Value.int .i64 l4.2))]) rfl (by rfl) (BS_28_1_0 l4.2)).trans (by rw [← hb10, ← hw10])) ?_
          obtain ⟨r11, w7, q11, h⟩ := h
          refine wpR_val (v := (Sl.v r11)) (w' := w7) rfl rfl rfl (x_append (s := l4.1) (u := (⟨some ⟨b10, 0, none⟩, 1, 1⟩ : Sl)) rfl rfl rfl rfl q11) ?_
          refine wpR_val (v := (Sl.v r11)) (w' := w7) rfl rfl rfl (x_assign (v := (Sl.v r11)) rfl rfl) ?_
          refine wpR_nil ?_
          exact ⟨r11, ⟨rfl, e0, e1, e2, e8, e16, e17, trivial⟩, h⟩
        · replace h := h.2 hc9
          refine wpC_skip ?_
          exact ⟨l4.1, ⟨e7, e0, e1, e2, e8, e16, e17, trivial⟩, h⟩
      clear h
      rintro l7 ρ w4 ⟨e7, e0, e1, e2, e8, e16, e17, -⟩ h
      replace h := hk l7 w4 h
      clear hk
      refine wpC_region ?_
      refine wpR_val (v := (Value.int .i64 (IntKind.i64.wrap (l4.2 + 1)))) (w' := w4) rfl rfl rfl (x_add rfl e17 rfl) ?_
      refine wpR_val (v := (Value.int .i64 (IntKind.i64.wrap (l4.2 + 1)))) (w' := w4) rfl rfl rfl (x_move (v := (Value.int .i64 (IntKind.i64.wrap (l4.2 + 1)))) rfl rfl) ?_
      refine wpR_nil ?_
      exact ⟨(l7, IntKind.i64.wrap (l4.2 + 1)), ⟨e7, rfl, e0, e1, e2, e8, e16, trivial⟩, h⟩
    · replace h := h.2 hc5
      refine wpC_exit ?_
      refine wpC_seq ?_
      refine wpC_cut (fun ρ => ρ 7 = (Sl.v l4.1) ∧ True) ⟨e7, trivial⟩ ?_
      rintro ρ ⟨e7, -⟩
      refine wpC_region ?_
      refine wpR_val (v := (Sl.v l4.1)) (w' := w3) rfl rfl rfl (x_move (v := (Sl.v l4.1)) rfl e7) ?_
      refine wpR_val (v := (Sl.v l4.1)) (w' := w3) rfl rfl rfl (x_assign (v := (Sl.v l4.1)) rfl rfl) ?_
      refine wpR_nil ?_
      refine wpC_ret ?_
      exact ⟨.inl rfl, fun a ha => ⟨_, results_rep1 rfl ha rfl, l4.1, rfl, h⟩⟩

/-- linguaref18.All -/
def F15 (p0 : Sl) (p1 : Sl) (p2 : Int) (w0 : World) (K : Sl → World → Prop) : Prop :=
  lp (fun (next1 : (Sl × Int) → World → Prop) l1 w1 =>
    cnd (decide (l1.2 < (p1.len : Int)))
      (
      jn (fun (J3 : Sl → World → Prop) =>
        callC Try.prog 10 #[(Sl.v p0), (Sl.v p1), (Value.int .i64 p2), (Value.int .i64 l1.2)] (fun (r : Bool) => (Value.bool r)) w1 fun r5 w3 =>
        cnd (r5)
          (
          nw 3 #[(Value.int .i64 l1.2)] w3 fun b7 w4 =>
          rn Try.prog (Builtin.append_ #[28, 28] 28 #[Sl.v l1.1, Sl.v (⟨some ⟨b7, 0, none⟩, 1, 1⟩ : Sl)]) Sl.v w4 fun r8 w5 =>
          J3 r8 w5
          )
          (
          J3 l1.1 w3
          )
      )
      fun l4 w2 =>
      next1 (l4, IntKind.i64.wrap (l1.2 + 1)) w2
      )
      (
      K l1.1 w1
      )
  ) (Sl.nil, 0) w0
set_option maxRecDepth 100000 in
theorem D15 (p0 : Sl) (p1 : Sl) (p2 : Int) (w0 : World) (K : Sl → World → Prop) (h : F15 p0 p1 p2 w0 K) : callC Try.prog 15 #[(Sl.v p0), (Sl.v p1), (Value.int .i64 p2)] (fun (r : Sl) => (Sl.v r)) w0 K := by
  unfold F15 at h
  refine calls_of_wpC Try.func15 rfl 25 rfl (by simp) ?_
  intro ρ hρ
  have e0 : ρ 0 = (Sl.v p0) := hρ 0
  have e1 : ρ 1 = (Sl.v p1) := hρ 1
  have e2 : ρ 2 = (Value.int .i64 p2) := hρ 2
  clear hρ
  refine wpC_seq ?_
  refine wpC_region ?_
  refine wpR_val (v := (Sl.v Sl.nil)) (w' := w0) rfl rfl rfl (x_assign (v := (Sl.v Sl.nil)) rfl rfl) ?_
  refine wpR_nil ?_
  refine wpC_seq ?_
  refine wpC_cut (fun ρ => ρ 0 = (Sl.v p0) ∧ ρ 1 = (Sl.v p1) ∧ ρ 2 = (Value.int .i64 p2) ∧ True) ⟨e0, e1, e2, trivial⟩ ?_
  rintro ρ ⟨e0, e1, e2, -⟩
  refine wpC_region ?_
  refine wpR_val (v := (Sl.v Sl.nil)) (w' := w0) rfl rfl rfl (x_assign (v := (Sl.v Sl.nil)) rfl rfl) ?_
  refine wpR_nil ?_
  refine wpC_seq ?_
  refine wpC_seq ?_
  refine wpC_cut (fun ρ => ρ 0 = (Sl.v p0) ∧ ρ 1 = (Sl.v p1) ∧ ρ 2 = (Value.int .i64 p2) ∧ ρ 7 = (Sl.v Sl.nil) ∧ True) ⟨e0, e1, e2, rfl, trivial⟩ ?_
  rintro ρ ⟨e0, e1, e2, e7, -⟩
  refine wpC_region ?_
  refine wpR_val (v := (Value.int .i64 0)) (w' := w0) rfl rfl rfl (x_assign (v := (Value.int .i64 0)) rfl rfl) ?_
  refine wpR_nil ?_
  refine wpC_block ?_
  obtain ⟨I1, μ1, hI1, hr1⟩ := h
  refine wpC_loop (fun (x : Sl × Int) ρ => ρ 7 = (Sl.v x.1) ∧ ρ 8 = (Value.int .i64 x.2) ∧ ρ 0 = (Sl.v p0) ∧ ρ 1 = (Sl.v p1) ∧ ρ 2 = (Value.int .i64 p2) ∧ True) I1 μ1 (Sl.nil, 0) ⟨e7, rfl, e0, e1, e2, trivial⟩ hI1 ?_
  rintro l1 ρ w1 ⟨e7, e8, e0, e1, e2, -⟩ h
  replace h := hr1 l1 w1 h
  clear hr1 hI1
  refine wpC_seq ?_
  refine wpC_seq ?_
  refine wpC_region ?_
  refine wpR_val (v := (Value.int .i64 l1.2)) (w' := w1) rfl rfl rfl (x_move (v := (Value.int .i64 l1.2)) rfl e8) ?_
  refine wpR_val (v := (Sl.v p1)) (w' := w1) rfl rfl rfl (x_move (v := (Sl.v p1)) rfl e1) ?_
  refine wpR_val (v := (Value.int .i64 (p1.len : Int))) (w' := w1) rfl rfl rfl (x_lenS (s := p1) rfl rfl isSliceT_23) ?_
  refine wpR_val (v := (Value.bool (decide (l1.2 < (p1.len : Int))))) (w' := w1) rfl rfl rfl (x_lss rfl rfl rfl) ?_
  refine wpR_nil ?_
  refine wpC_cond (b := decide (l1.2 < (p1.len : Int))) rfl (fun hc2 => ?_) (fun hc2 => ?_)
  · replace h := h.1 hc2
    refine wpC_skip ?_
    obtain ⟨J3, h, hk⟩ := h
    refine wpC_seqJ (fun (x : Sl) ρ => ρ 7 = (Sl.v x) ∧ ρ 0 = (Sl.v p0) ∧ ρ 1 = (Sl.v p1) ∧ ρ 2 = (Value.int .i64 p2) ∧ ρ 8 = (Value.int .i64 l1.2) ∧ True) J3 ?_ ?_
    · clear hk
      refine wpC_block ?_
      refine wpC_seq ?_
      refine wpC_cut (fun ρ => ρ 0 = (Sl.v p0) ∧ ρ 1 = (Sl.v p1) ∧ ρ 2 = (Value.int .i64 p2) ∧ ρ 7 = (Sl.v l1.1) ∧ ρ 8 = (Value.int .i64 l1.2) ∧ True) ⟨e0, e1, e2, e7, e8, trivial⟩ ?_
      rintro ρ ⟨e0, e1, e2, e7, e8, -⟩
      refine wpC_region ?_
      refine wpR_val (v := (Sl.v p0)) (w' := w1) rfl rfl rfl (x_move (v := (Sl.v p0)) rfl e0) ?_
      refine wpR_val (v := (Sl.v p1)) (w' := w1) rfl rfl rfl (x_move (v := (Sl.v p1)) rfl e1) ?_
      refine wpR_val (v := (Value.int .i64 p2)) (w' := w1) rfl rfl rfl (x_move (v := (Value.int .i64 p2)) rfl e2) ?_
      refine wpR_val (v := (Value.int .i64 l1.2)) (w' := w1) rfl rfl rfl (x_move (v := (Value.int .i64 l1.2)) rfl e8) ?_
      refine wpR_enter rfl rfl rfl (x_call (vs := [(Sl.v p0), (Sl.v p1), (Value.int .i64 p2), (Value.int .i64 l1.2)]) rfl rfl (mapl_cons rfl (mapl_cons rfl (mapl_cons rfl (mapl_cons rfl mapl_nil)))) Try.func10 NN_10 NB_10) (Calls.mono h ?_)
      rintro _ w3 ⟨r5, rfl, h⟩
      refine ⟨_, rfl, ?_⟩
      refine wpR_nil ?_
      refine wpC_cond (b := r5) rfl (fun hc6 => ?_) (fun hc6 => ?_)
      · replace h := h.1 hc6
        refine wpC_cut (fun ρ => ρ 0 = (Sl.v p0) ∧ ρ 1 = (Sl.v p1) ∧ ρ 2 = (Value.int .i64 p2) ∧ ρ 7 = (Sl.v l1.1) ∧ ρ 8 = (Value.int .i64 l1.2) ∧ True) ⟨e0, e1, e2, e7, e8, trivial⟩ ?_
        rintro ρ ⟨e0, e1, e2, e7, e8, -⟩
        refine wpC_region ?_
        refine wpR_val (v := (Sl.v l1.1)) (w' := w3) rfl rfl rfl (x_move (v := (Sl.v l1.1)) rfl e7) ?_
        refine wpR_val (v := (Value.int .i64 l1.2)) (w' := w3) rfl rfl rfl (x_move (v := (Value.int .i64 l1.2)) rfl e8) ?_
        obtain ⟨b7, hb7⟩ : ∃ u, u = w3.heap.size := ⟨_, rfl⟩
        obtain ⟨w4, hw7⟩ : ∃ u, u = w3.alloc (.cells #[(Value.int .i64 l1.2)] 3) := ⟨_, rfl⟩
        replace h := h b7 w4 hb7 hw7
        refine wpR_val (v := (Sl.v (⟨some ⟨b7, 0, none⟩, 1, 1⟩ : Sl))) (w' := w4) rfl rfl rfl ((x_buildSlice (qs := [(0, (Value.int .i64 l1.2))]) rfl (by rfl) (BS_28_1_0 l1.2)).trans (by rw [← hb7, ← hw7])) ?_
        obtain ⟨r8, w5, q8, h⟩ := h
        refine wpR_val (v := (Sl.v r8)) (w' := w5) rfl rfl rfl (x_append (s := l1.1) (u := (⟨some ⟨b7, 0, none⟩, 1, 1⟩ : Sl)) rfl rfl rfl rfl q8) ?_
        refine wpR_val (v := (Sl.v r8)) (w' := w5) rfl rfl rfl (x_assign (v := (Sl.v r8)) rfl rfl) ?_
        refine wpR_nil ?_
        exact ⟨r8, ⟨rfl, e0, e1, e2, e8, trivial⟩, h⟩
      · replace h := h.2 hc6
        refine wpC_skip ?_
        exact ⟨l1.1, ⟨e7, e0, e1, e2, e8, trivial⟩, h⟩
    clear h
    rintro l4 ρ w2 ⟨e7, e0, e1, e2, e8, -⟩ h
    replace h := hk l4 w2 h
    clear hk
    refine wpC_region ?_
    refine wpR_val (v := (Value.int .i64 l1.2)) (w' := w2) rfl rfl rfl (x_move (v := (Value.int .i64 l1.2)) rfl e8) ?_
    refine wpR_val (v := (Value.int .i64 (IntKind.i64.wrap (l1.2 + 1)))) (w' := w2) rfl rfl rfl (x_add rfl rfl rfl) ?_
    refine wpR_val (v := (Value.int .i64 (IntKind.i64.wrap (l1.2 + 1)))) (w' := w2) rfl rfl rfl (x_assign (v := (Value.int .i64 (IntKind.i64.wrap (l1.2 + 1)))) rfl rfl) ?_
    refine wpR_nil ?_
    exact ⟨(l4, IntKind.i64.wrap (l1.2 + 1)), ⟨e7, rfl, e0, e1, e2, trivial⟩, h⟩
  · replace h := h.2 hc2
    refine wpC_exit ?_
    refine wpC_seq ?_
    refine wpC_cut (fun ρ => ρ 7 = (Sl.v l1.1) ∧ True) ⟨e7, trivial⟩ ?_
    rintro ρ ⟨e7, -⟩
    refine wpC_region ?_
    refine wpR_val (v := (Sl.v l1.1)) (w' := w1) rfl rfl rfl (x_move (v := (Sl.v l1.1)) rfl e7) ?_
    refine wpR_val (v := (Sl.v l1.1)) (w' := w1) rfl rfl rfl (x_assign (v := (Sl.v l1.1)) rfl rfl) ?_
    refine wpR_nil ?_
    refine wpC_ret ?_
    exact ⟨.inl rfl, fun a ha => ⟨_, results_rep1 rfl ha rfl, l1.1, rfl, h⟩⟩

/-- lingualaw18.has -/
def F16 (p0 : Sl) (p1 : Int) (w0 : World) (K : Bool → World → Prop) : Prop :=
  lp (fun (next1 : Int → World → Prop) l1 w1 =>
    cnd (decide (l1 < (p0.len : Int)))
      (
      ix p0 l1 1 fun p3 =>
      ld (Value.int .i64) p3 w1 fun x4 =>
      cnd (decide (x4 = p1))
        (
        K true w1
        )
        (
        next1 (IntKind.i64.wrap (l1 + 1)) w1
        )
      )
      (
      K false w1
      )
  ) 0 w0
set_option maxRecDepth 100000 in
theorem D16 (p0 : Sl) (p1 : Int) (w0 : World) (K : Bool → World → Prop) (h : F16 p0 p1 w0 K) : callC Try.prog 16 #[(Sl.v p0), (Value.int .i64 p1)] (fun (r : Bool) => (Value.bool r)) w0 K := by
  unfold F16 at h
  refine calls_of_wpC Try.func16 rfl 18 rfl (by simp) ?_
  intro ρ hρ
  have e0 : ρ 0 = (Sl.v p0) := hρ 0
  have e1 : ρ 1 = (Value.int .i64 p1) := hρ 1
  clear hρ
  refine wpC_seq ?_
  refine wpC_region ?_
  refine wpR_val (v := (Value.bool false)) (w' := w0) rfl rfl rfl (x_assign (v := (Value.bool false)) rfl rfl) ?_
  refine wpR_nil ?_
  refine wpC_seq ?_
  refine wpC_seq ?_
  refine wpC_cut (fun ρ => ρ 0 = (Sl.v p0) ∧ ρ 1 = (Value.int .i64 p1) ∧ True) ⟨e0, e1, trivial⟩ ?_
  rintro ρ ⟨e0, e1, -⟩
  refine wpC_region ?_
  refine wpR_val (v := (Value.int .i64 0)) (w' := w0) rfl rfl rfl (x_assign (v := (Value.int .i64 0)) rfl rfl) ?_
  refine wpR_nil ?_
  refine wpC_block ?_
  obtain ⟨I1, μ1, hI1, hr1⟩ := h
  refine wpC_loop (fun (x : Int) ρ => ρ 5 = (Value.int .i64 x) ∧ ρ 0 = (Sl.v p0) ∧ ρ 1 = (Value.int .i64 p1) ∧ True) I1 μ1 0 ⟨rfl, e0, e1, trivial⟩ hI1 ?_
  rintro l1 ρ w1 ⟨e5, e0, e1, -⟩ h
  replace h := hr1 l1 w1 h
  clear hr1 hI1
  refine wpC_seq ?_
  refine wpC_seq ?_
  refine wpC_region ?_
  refine wpR_val (v := (Value.int .i64 l1)) (w' := w1) rfl rfl rfl (x_move (v := (Value.int .i64 l1)) rfl e5) ?_
  refine wpR_val (v := (Sl.v p0)) (w' := w1) rfl rfl rfl (x_move (v := (Sl.v p0)) rfl e0) ?_
  refine wpR_val (v := (Value.int .i64 (p0.len : Int))) (w' := w1) rfl rfl rfl (x_lenS (s := p0) rfl rfl isSliceT_28) ?_
  refine wpR_val (v := (Value.bool (decide (l1 < (p0.len : Int))))) (w' := w1) rfl rfl rfl (x_lss rfl rfl rfl) ?_
  refine wpR_nil ?_
  refine wpC_cond (b := decide (l1 < (p0.len : Int))) rfl (fun hc2 => ?_) (fun hc2 => ?_)
  · replace h := h.1 hc2
    refine wpC_skip ?_
    refine wpC_seq ?_
    refine wpC_block ?_
    refine wpC_seq ?_
    refine wpC_cut (fun ρ => ρ 0 = (Sl.v p0) ∧ ρ 1 = (Value.int .i64 p1) ∧ ρ 5 = (Value.int .i64 l1) ∧ True) ⟨e0, e1, e5, trivial⟩ ?_
    rintro ρ ⟨e0, e1, e5, -⟩
    refine wpC_region ?_
    refine wpR_val (v := (Sl.v p0)) (w' := w1) rfl rfl rfl (x_move (v := (Sl.v p0)) rfl e0) ?_
    refine wpR_val (v := (Value.int .i64 l1)) (w' := w1) rfl rfl rfl (x_move (v := (Value.int .i64 l1)) rfl e5) ?_
    obtain ⟨q3, z3, r3, h⟩ := h
    generalize hp3 : z3.add ((l1 : Int).toNat * 1) = p3 at h
    refine wpR_val (v := (Value.pointer (some p3))) (w' := w1) rfl rfl rfl ((x_indexAddr (s := p0) rfl rfl rfl ES_28 q3 r3).trans (by rw [hp3])) ?_
    obtain ⟨x4, q4, h⟩ := h
    refine wpR_val (v := (Value.int .i64 x4)) (w' := w1) rfl rfl rfl (x_load1 rfl rfl SH_3 q4) ?_
    refine wpR_val (v := (Value.int .i64 p1)) (w' := w1) rfl rfl rfl (x_move (v := (Value.int .i64 p1)) rfl e1) ?_
    refine wpR_val (v := (Value.bool (decide (x4 = p1)))) (w' := w1) rfl rfl rfl (x_eql rfl rfl rfl) ?_
    refine wpR_nil ?_
    refine wpC_cond (b := decide (x4 = p1)) rfl (fun hc5 => ?_) (fun hc5 => ?_)
    · replace h := h.1 hc5
      refine wpC_seq ?_
      refine wpC_cut (fun ρ => True) trivial ?_
      rintro ρ -
      refine wpC_region ?_
      refine wpR_val (v := (Value.bool true)) (w' := w1) rfl rfl rfl (x_assign (v := (Value.bool true)) rfl rfl) ?_
      refine wpR_nil ?_
      refine wpC_ret ?_
      exact ⟨.inl rfl, fun a ha => ⟨_, results_rep1 rfl ha rfl, true, rfl, h⟩⟩
    · replace h := h.2 hc5
      refine wpC_skip ?_
      refine wpC_cut (fun ρ => ρ 0 = (Sl.v p0) ∧ ρ 1 = (Value.int .i64 p1) ∧ ρ 5 = (Value.int .i64 l1) ∧ True) ⟨e0, e1, e5, trivial⟩ ?_
      rintro ρ ⟨e0, e1, e5, -⟩
      refine wpC_region ?_
      refine wpR_val (v := (Value.int .i64 l1)) (w' := w1) rfl rfl rfl (x_move (v := (Value.int .i64 l1)) rfl e5) ?_
      refine wpR_val (v := (Value.int .i64 (IntKind.i64.wrap (l1 + 1)))) (w' := w1) rfl rfl rfl (x_add rfl rfl rfl) ?_
      refine wpR_val (v := (Value.int .i64 (IntKind.i64.wrap (l1 + 1)))) (w' := w1) rfl rfl rfl (x_assign (v := (Value.int .i64 (IntKind.i64.wrap (l1 + 1)))) rfl rfl) ?_
      refine wpR_nil ?_
      exact ⟨IntKind.i64.wrap (l1 + 1), ⟨rfl, e0, e1, trivial⟩, h⟩
  · replace h := h.2 hc2
    refine wpC_exit ?_
    refine wpC_seq ?_
    refine wpC_cut (fun ρ => True) trivial ?_
    rintro ρ -
    refine wpC_region ?_
    refine wpR_val (v := (Value.bool false)) (w' := w1) rfl rfl rfl (x_assign (v := (Value.bool false)) rfl rfl) ?_
    refine wpR_nil ?_
    refine wpC_ret ?_
    exact ⟨.inl rfl, fun a ha => ⟨_, results_rep1 rfl ha rfl, false, rfl, h⟩⟩

/-- group.Stays -/
def F17 (p0 : Sl) (w0 : World) (K : Sl → World → Prop) : Prop :=
  rn Try.prog (Instr.makeMap 52 none) (fun (r : (Option Nat)) => (Value.map r)) w0 fun r1 w1 =>
  lp (fun (next2 : (Sl × Int) → World → Prop) l2 w2 =>
    cnd (decide (l2.2 < (p0.len : Int)))
      (
      jn (fun (J4 : Sl → World → Prop) =>
        ix p0 l2.2 12 fun p6 =>
        ld (Value.int .i64) (p6.add 0) w2 fun x7 =>
        ld (Value.int .i64) (p6.add 1) w2 fun x8 =>
        ld Sl.v (p6.add 2) w2 fun x9 =>
        ld (Value.int .i64) (p6.add 3) w2 fun x10 =>
        ld (Value.int .i64) (p6.add 4) w2 fun x11 =>
        ld (Value.int .i64) (p6.add 5) w2 fun x12 =>
        ld (Value.int .i64) (p6.add 6) w2 fun x13 =>
        ld (Value.int .i64) (p6.add 7) w2 fun x14 =>
        ld (Value.int .i64) (p6.add 8) w2 fun x15 =>
        ld Value.string (p6.add 9) w2 fun x16 =>
        ld Sl.v (p6.add 10) w2 fun x17 =>
        ld (Value.int .i64) (p6.add 11) w2 fun x18 =>
        nw 41 #[(Value.int .i64 0), (Value.int .i64 0), (Sl.v Sl.nil), (Value.int .i64 0), (Value.int .i64 0), (Value.int .i64 0), (Value.int .i64 0), (Value.int .i64 0), (Value.int .i64 0), (Value.string (ByteArray.mk #[])), (Sl.v Sl.nil), (Value.int .i64 0)] w2 fun b19 w4 =>
        st (Addr.mk b19 0 none) [(Value.int .i64 x7), (Value.int .i64 x8), (Sl.v x9), (Value.int .i64 x10), (Value.int .i64 x11), (Value.int .i64 x12), (Value.int .i64 x13), (Value.int .i64 x14), (Value.int .i64 x15), (Value.string x16), (Sl.v x17), (Value.int .i64 x18)] w4 fun w5 =>
        ld (Value.int .i64) ((Addr.mk b19 0 none).add 7) w5 fun x21 =>
        ld (Value.int .i64) ((Addr.mk b19 0 none).add 4) w5 fun x22 =>
        nw 54 #[(Value.int .i64 0), (Value.int .i64 0)] w5 fun b23 w6 =>
        st (Addr.mk b23 0 none) [(Value.int .i64 x21), (Value.int .i64 x22)] w6 fun w7 =>
        jn (fun (J25 : Unit → World → Prop) =>
          ld (Value.int .i64) ((Addr.mk b19 0 none).add 3) w7 fun x27 =>
          cnd (decide (x27 = 6))
            (
            ld (Value.int .i64) ((Addr.mk b19 0 none).add 0) w7 fun x29 =>
            st ((Addr.mk b23 0 none).add 0) [(Value.int .i64 x29)] w7 fun w9 =>
            J25 () w9
            )
            (
            J25 () w7
            )
        )
        fun _l26 w8 =>
        ld (Value.int .i64) ((Addr.mk b23 0 none).add 0) w8 fun x31 =>
        ld (Value.int .i64) ((Addr.mk b23 0 none).add 1) w8 fun x32 =>
        rn Try.prog (Instr.lookup 52 (Value.map r1) (Value.agg #[(Value.int .i64 x31), (Value.int .i64 x32)]) true) (fun (r : Int × Bool) => (Value.tuple #[(Value.int .i64 r.1), (Value.bool r.2)])) w8 fun r33 w10 =>
        ld (Value.int .i64) ((Addr.mk b19 0 none).add 3) w10 fun x34 =>
        cnd ((decide (x34 = 5)) && (!r33.2))
          (
          ld (Value.int .i64) ((Addr.mk b23 0 none).add 0) w10 fun x38 =>
          ld (Value.int .i64) ((Addr.mk b23 0 none).add 1) w10 fun x39 =>
          rn0 Try.prog (Instr.mapUpdate 52 (Value.map r1) (Value.agg #[(Value.int .i64 x38), (Value.int .i64 x39)]) (Value.int .i64 (l2.1.len : Int))) w10 fun w11 =>
          ld (Value.int .i64) ((Addr.mk b23 0 none).add 0) w11 fun x41 =>
          ld (Value.int .i64) ((Addr.mk b23 0 none).add 1) w11 fun x42 =>
          nw 43 #[(Value.int .i64 x41), (Value.int .i64 x42), (Value.int .i64 l2.2), (Value.int .i64 (-1))] w11 fun b43 w12 =>
          rn Try.prog (Builtin.append_ #[37, 37] 37 #[Sl.v l2.1, Sl.v (⟨some ⟨b43, 0, none⟩, 1, 1⟩ : Sl)]) Sl.v w12 fun r44 w13 =>
          J4 r44 w13
          )
          (
          ld (Value.int .i64) ((Addr.mk b19 0 none).add 3) w10 fun x45 =>
          jp (fun J46 => cnd (decide (x45 = 6))
            (
            J46 true
            )
            (
            ld (Value.int .i64) ((Addr.mk b19 0 none).add 3) w10 fun x48 =>
            J46 (decide (x48 = 7))
            ))
          fun c49 =>
          cnd (c49 && r33.2)
            (
            ix l2.1 r33.1 4 fun p53 =>
            st (p53.add 3) [(Value.int .i64 l2.2)] w10 fun w14 =>
            ld (Value.int .i64) ((Addr.mk b23 0 none).add 0) w14 fun x55 =>
            ld (Value.int .i64) ((Addr.mk b23 0 none).add 1) w14 fun x56 =>
            rn Try.prog (Builtin.delete_ #[52, 54] 0 #[(Value.map r1), (Value.agg #[(Value.int .i64 x55), (Value.int .i64 x56)])]) (fun _ : Unit => Value.tuple #[]) w14 fun _r57 w15 =>
            J4 l2.1 w15
            )
            (
            J4 l2.1 w10
            )
          )
      )
      fun l5 w3 =>
      next2 (l5, IntKind.i64.wrap (l2.2 + 1)) w3
      )
      (
      K l2.1 w2
      )
  ) (Sl.nil, 0) w1
set_option maxRecDepth 100000 in
theorem D17 (p0 : Sl) (w0 : World) (K : Sl → World → Prop) (h : F17 p0 w0 K) : callC Try.prog 17 #[(Sl.v p0)] (fun (r : Sl) => (Sl.v r)) w0 K := by
  unfold F17 at h
  refine calls_of_wpC Try.func17 rfl 77 rfl (by simp) ?_
  intro ρ hρ
  have e0 : ρ 0 = (Sl.v p0) := hρ 0
  clear hρ
  refine wpC_seq ?_
  refine wpC_region ?_
  refine wpR_val (v := (Sl.v Sl.nil)) (w' := w0) rfl rfl rfl (x_assign (v := (Sl.v Sl.nil)) rfl rfl) ?_
  refine wpR_nil ?_
  refine wpC_seq ?_
  refine wpC_cut (fun ρ => ρ 0 = (Sl.v p0) ∧ True) ⟨e0, trivial⟩ ?_
  rintro ρ ⟨e0, -⟩
  refine wpC_region ?_
  refine wpR_val (v := (Sl.v Sl.nil)) (w' := w0) rfl rfl rfl (x_assign (v := (Sl.v Sl.nil)) rfl rfl) ?_
  refine wpR_nil ?_
  refine wpC_seq ?_
  refine wpC_cut (fun ρ => ρ 0 = (Sl.v p0) ∧ ρ 3 = (Sl.v Sl.nil) ∧ True) ⟨e0, rfl, trivial⟩ ?_
  rintro ρ ⟨e0, e3, -⟩
  refine wpC_region ?_
  obtain ⟨r1, w1, q1, h⟩ := h
  refine wpR_val (v := (Value.map r1)) (w' := w1) rfl rfl rfl (x_makeMap rfl rfl q1) ?_
  refine wpR_val (v := (Value.map r1)) (w' := w1) rfl rfl rfl (x_assign (v := (Value.map r1)) rfl rfl) ?_
  refine wpR_nil ?_
  refine wpC_seq ?_
  refine wpC_seq ?_
  refine wpC_cut (fun ρ => ρ 0 = (Sl.v p0) ∧ ρ 3 = (Sl.v Sl.nil) ∧ ρ 4 = (Value.map r1) ∧ True) ⟨e0, e3, rfl, trivial⟩ ?_
  rintro ρ ⟨e0, e3, e4, -⟩
  refine wpC_region ?_
  refine wpR_val (v := (Sl.v p0)) (w' := w1) rfl rfl rfl (x_move (v := (Sl.v p0)) rfl e0) ?_
  refine wpR_val (v := (Value.int .i64 (p0.len : Int))) (w' := w1) rfl rfl rfl (x_lenS (s := p0) rfl rfl isSliceT_23) ?_
  refine wpR_val (v := (Value.int .i64 0)) (w' := w1) rfl rfl rfl (x_move (v := (Value.int .i64 0)) rfl rfl) ?_
  refine wpR_nil ?_
  refine wpC_block ?_
  obtain ⟨I2, μ2, hI2, hr2⟩ := h
  refine wpC_loop (fun (x : Sl × Int) ρ => ρ 3 = (Sl.v x.1) ∧ ρ 13 = (Value.int .i64 x.2) ∧ ρ 4 = (Value.map r1) ∧ ρ 11 = (Sl.v p0) ∧ ρ 12 = (Value.int .i64 (p0.len : Int)) ∧ True) I2 μ2 (Sl.nil, 0) ⟨e3, rfl, e4, rfl, rfl, trivial⟩ hI2 ?_
  rintro l2 ρ w2 ⟨e3, e13, e4, e11, e12, -⟩ h
  replace h := hr2 l2 w2 h
  clear hr2 hI2
  refine wpC_seq ?_
  refine wpC_region ?_
  refine wpR_val (v := (Value.bool (decide (l2.2 < (p0.len : Int))))) (w' := w2) rfl rfl rfl (x_lss rfl e13 e12) ?_
  refine wpR_nil ?_
  refine wpC_seq ?_
  refine wpC_cond (b := decide (l2.2 < (p0.len : Int))) rfl (fun hc3 => ?_) (fun hc3 => ?_)
  · replace h := h.1 hc3
    refine wpC_skip ?_
    obtain ⟨J4, h, hk⟩ := h
    refine wpC_seqJ (fun (x : Sl) ρ => ρ 3 = (Sl.v x) ∧ ρ 4 = (Value.map r1) ∧ ρ 11 = (Sl.v p0) ∧ ρ 12 = (Value.int .i64 (p0.len : Int)) ∧ ρ 13 = (Value.int .i64 l2.2) ∧ True) J4 ?_ ?_
    · clear hk
      refine wpC_block ?_
      refine wpC_seq ?_
      refine wpC_cut (fun ρ => ρ 3 = (Sl.v l2.1) ∧ ρ 4 = (Value.map r1) ∧ ρ 11 = (Sl.v p0) ∧ ρ 12 = (Value.int .i64 (p0.len : Int)) ∧ ρ 13 = (Value.int .i64 l2.2) ∧ True) ⟨e3, e4, e11, e12, e13, trivial⟩ ?_
      rintro ρ ⟨e3, e4, e11, e12, e13, -⟩
      refine wpC_region ?_
      refine wpR_val (v := (Value.int .i64 l2.2)) (w' := w2) rfl rfl rfl (x_move (v := (Value.int .i64 l2.2)) rfl e13) ?_
      obtain ⟨q6, z6, r6, h⟩ := h
      generalize hp6 : z6.add ((l2.2 : Int).toNat * 12) = p6 at h
      refine wpR_val (v := (Value.pointer (some p6))) (w' := w2) rfl rfl rfl ((x_indexAddr (s := p0) rfl e11 e13 ES_23 q6 r6).trans (by rw [hp6])) ?_
      obtain ⟨x7, q7, h⟩ := h
      obtain ⟨x8, q8, h⟩ := h
      obtain ⟨x9, q9, h⟩ := h
      obtain ⟨x10, q10, h⟩ := h
      obtain ⟨x11, q11, h⟩ := h
      obtain ⟨x12, q12, h⟩ := h
      obtain ⟨x13, q13, h⟩ := h
      obtain ⟨x14, q14, h⟩ := h
      obtain ⟨x15, q15, h⟩ := h
      obtain ⟨x16, q16, h⟩ := h
      obtain ⟨x17, q17, h⟩ := h
      obtain ⟨x18, q18, h⟩ := h
      refine wpR_val (v := (Value.agg #[(Value.int .i64 x7), (Value.int .i64 x8), (Sl.v x9), (Value.int .i64 x10), (Value.int .i64 x11), (Value.int .i64 x12), (Value.int .i64 x13), (Value.int .i64 x14), (Value.int .i64 x15), (Value.string x16), (Sl.v x17), (Value.int .i64 x18)])) (w' := w2) rfl rfl rfl (x_loadN [(Value.int .i64 x7), (Value.int .i64 x8), (Sl.v x9), (Value.int .i64 x10), (Value.int .i64 x11), (Value.int .i64 x12), (Value.int .i64 x13), (Value.int .i64 x14), (Value.int .i64 x15), (Value.string x16), (Sl.v x17), (Value.int .i64 x18)] rfl rfl SH_41 (CellsAt.out (CellsAt.cons q7 (CellsAt.cons q8 (CellsAt.cons q9 (CellsAt.cons q10 (CellsAt.cons q11 (CellsAt.cons q12 (CellsAt.cons q13 (CellsAt.cons q14 (CellsAt.cons q15 (CellsAt.cons q16 (CellsAt.cons q17 (CellsAt.cons q18 CellsAt.nil)))))))))))))) ?_
      obtain ⟨b19, hb19⟩ : ∃ u, u = w2.heap.size := ⟨_, rfl⟩
      obtain ⟨w4, hw19⟩ : ∃ u, u = w2.alloc (.cells #[(Value.int .i64 0), (Value.int .i64 0), (Sl.v Sl.nil), (Value.int .i64 0), (Value.int .i64 0), (Value.int .i64 0), (Value.int .i64 0), (Value.int .i64 0), (Value.int .i64 0), (Value.string (ByteArray.mk #[])), (Sl.v Sl.nil), (Value.int .i64 0)] 41) := ⟨_, rfl⟩
      replace h := h b19 w4 hb19 hw19
      refine wpR_val (v := (Value.pointer (some (Addr.mk b19 0 none)))) (w' := w4) rfl rfl rfl ((x_alloc rfl ZV_41).trans (by rw [hb19, hw19]; rfl)) ?_
      refine wpR_val (v := (Value.int .i64 l2.2)) (w' := w4) rfl rfl rfl (x_assign (v := (Value.int .i64 l2.2)) rfl rfl) ?_
      obtain ⟨q20, h⟩ := h
      obtain ⟨w5, hw20⟩ : ∃ u, u = setAll w4 (Addr.mk b19 0 none) [(Value.int .i64 x7), (Value.int .i64 x8), (Sl.v x9), (Value.int .i64 x10), (Value.int .i64 x11), (Value.int .i64 x12), (Value.int .i64 x13), (Value.int .i64 x14), (Value.int .i64 x15), (Value.string x16), (Sl.v x17), (Value.int .i64 x18)] 0 := ⟨_, rfl⟩
      replace h := h w5 hw20
      refine wpR_skp (w' := w5) rfl rfl ((x_store (v := (Value.agg #[(Value.int .i64 x7), (Value.int .i64 x8), (Sl.v x9), (Value.int .i64 x10), (Value.int .i64 x11), (Value.int .i64 x12), (Value.int .i64 x13), (Value.int .i64 x14), (Value.int .i64 x15), (Value.string x16), (Sl.v x17), (Value.int .i64 x18)])) rfl rfl rfl SZ_41 (ones (by rfl)) q20).trans (by rw [hw20]; rfl)) ?_
      refine wpR_nil ?_
      refine wpC_seq ?_
      refine wpC_cut (fun ρ => ρ 3 = (Sl.v l2.1) ∧ ρ 4 = (Value.map r1) ∧ ρ 5 = (Value.int .i64 l2.2) ∧ ρ 6 = (Value.pointer (some (Addr.mk b19 0 none))) ∧ ρ 11 = (Sl.v p0) ∧ ρ 12 = (Value.int .i64 (p0.len : Int)) ∧ ρ 13 = (Value.int .i64 l2.2) ∧ True) ⟨e3, e4, rfl, rfl, e11, e12, e13, trivial⟩ ?_
      rintro ρ ⟨e3, e4, e5, e6, e11, e12, e13, -⟩
      refine wpC_region ?_
      refine wpR_val (v := (Value.pointer (some ((Addr.mk b19 0 none).add 7)))) (w' := w5) rfl rfl rfl (x_fieldAddr rfl e6 FA_41_7) ?_
      obtain ⟨x21, q21, h⟩ := h
      refine wpR_val (v := (Value.int .i64 x21)) (w' := w5) rfl rfl rfl (x_load1 rfl rfl SH_3 q21) ?_
      refine wpR_val (v := (Value.pointer (some ((Addr.mk b19 0 none).add 4)))) (w' := w5) rfl rfl rfl (x_fieldAddr rfl e6 FA_41_4) ?_
      obtain ⟨x22, q22, h⟩ := h
      refine wpR_val (v := (Value.int .i64 x22)) (w' := w5) rfl rfl rfl (x_load1 rfl rfl SH_3 q22) ?_
      refine wpR_val (v := (Value.agg #[(Value.int .i64 x21), (Value.int .i64 x22)])) (w' := w5) rfl rfl rfl (x_build (qs := [(0, (Value.int .i64 x21)), (1, (Value.int .i64 x22))]) rfl (by rfl) (BD_54_0_1 x21 x22 _)) ?_
      obtain ⟨b23, hb23⟩ : ∃ u, u = w5.heap.size := ⟨_, rfl⟩
      obtain ⟨w6, hw23⟩ : ∃ u, u = w5.alloc (.cells #[(Value.int .i64 0), (Value.int .i64 0)] 54) := ⟨_, rfl⟩
      replace h := h b23 w6 hb23 hw23
      refine wpR_val (v := (Value.pointer (some (Addr.mk b23 0 none)))) (w' := w6) rfl rfl rfl ((x_alloc rfl ZV_54).trans (by rw [hb23, hw23]; rfl)) ?_
      obtain ⟨q24, h⟩ := h
      obtain ⟨w7, hw24⟩ : ∃ u, u = setAll w6 (Addr.mk b23 0 none) [(Value.int .i64 x21), (Value.int .i64 x22)] 0 := ⟨_, rfl⟩
      replace h := h w7 hw24
      refine wpR_skp (w' := w7) rfl rfl ((x_store (v := (Value.agg #[(Value.int .i64 x21), (Value.int .i64 x22)])) rfl rfl rfl SZ_54 (ones (by rfl)) q24).trans (by rw [hw24]; rfl)) ?_
      refine wpR_nil ?_
      obtain ⟨J25, h, hk⟩ := h
      refine wpC_seqJ (fun (x : Unit) ρ => ρ 3 = (Sl.v l2.1) ∧ ρ 4 = (Value.map r1) ∧ ρ 5 = (Value.int .i64 l2.2) ∧ ρ 6 = (Value.pointer (some (Addr.mk b19 0 none))) ∧ ρ 7 = (Value.pointer (some (Addr.mk b23 0 none))) ∧ ρ 11 = (Sl.v p0) ∧ ρ 12 = (Value.int .i64 (p0.len : Int)) ∧ ρ 13 = (Value.int .i64 l2.2) ∧ True) J25 ?_ ?_
      · clear hk
        refine wpC_seq ?_
        refine wpC_cut (fun ρ => ρ 3 = (Sl.v l2.1) ∧ ρ 4 = (Value.map r1) ∧ ρ 5 = (Value.int .i64 l2.2) ∧ ρ 6 = (Value.pointer (some (Addr.mk b19 0 none))) ∧ ρ 7 = (Value.pointer (some (Addr.mk b23 0 none))) ∧ ρ 11 = (Sl.v p0) ∧ ρ 12 = (Value.int .i64 (p0.len : Int)) ∧ ρ 13 = (Value.int .i64 l2.2) ∧ True) ⟨e3, e4, e5, e6, rfl, e11, e12, e13, trivial⟩ ?_
        rintro ρ ⟨e3, e4, e5, e6, e7, e11, e12, e13, -⟩
        refine wpC_region ?_
        refine wpR_val (v := (Value.pointer (some ((Addr.mk b19 0 none).add 3)))) (w' := w7) rfl rfl rfl (x_fieldAddr rfl e6 FA_41_3) ?_
        obtain ⟨x27, q27, h⟩ := h
        refine wpR_val (v := (Value.int .i64 x27)) (w' := w7) rfl rfl rfl (x_load1 rfl rfl SH_3 q27) ?_
        refine wpR_val (v := (Value.bool (decide (x27 = 6)))) (w' := w7) rfl rfl rfl (x_eql rfl rfl rfl) ?_
        refine wpR_nil ?_
        refine wpC_cond (b := decide (x27 = 6)) rfl (fun hc28 => ?_) (fun hc28 => ?_)
        · replace h := h.1 hc28
          refine wpC_cut (fun ρ => ρ 3 = (Sl.v l2.1) ∧ ρ 4 = (Value.map r1) ∧ ρ 5 = (Value.int .i64 l2.2) ∧ ρ 6 = (Value.pointer (some (Addr.mk b19 0 none))) ∧ ρ 7 = (Value.pointer (some (Addr.mk b23 0 none))) ∧ ρ 11 = (Sl.v p0) ∧ ρ 12 = (Value.int .i64 (p0.len : Int)) ∧ ρ 13 = (Value.int .i64 l2.2) ∧ True) ⟨e3, e4, e5, e6, e7, e11, e12, e13, trivial⟩ ?_
          rintro ρ ⟨e3, e4, e5, e6, e7, e11, e12, e13, -⟩
          refine wpC_region ?_
          refine wpR_val (v := (Value.pointer (some ((Addr.mk b19 0 none).add 0)))) (w' := w7) rfl rfl rfl (x_fieldAddr rfl e6 FA_41_0) ?_
          obtain ⟨x29, q29, h⟩ := h
          refine wpR_val (v := (Value.int .i64 x29)) (w' := w7) rfl rfl rfl (x_load1 rfl rfl SH_3 q29) ?_
          refine wpR_val (v := (Value.pointer (some ((Addr.mk b23 0 none).add 0)))) (w' := w7) rfl rfl rfl (x_fieldAddr rfl e7 FA_54_0) ?_
          obtain ⟨q30, h⟩ := h
          obtain ⟨w9, hw30⟩ : ∃ u, u = setAll w7 ((Addr.mk b23 0 none).add 0) [(Value.int .i64 x29)] 0 := ⟨_, rfl⟩
          replace h := h w9 hw30
          refine wpR_skp (w' := w9) rfl rfl ((x_store (v := (Value.int .i64 x29)) rfl rfl rfl SZ_3 (ones (by rfl)) q30).trans (by rw [hw30]; rfl)) ?_
          refine wpR_nil ?_
          exact ⟨(), ⟨e3, e4, e5, e6, e7, e11, e12, e13, trivial⟩, h⟩
        · replace h := h.2 hc28
          refine wpC_skip ?_
          exact ⟨(), ⟨e3, e4, e5, e6, e7, e11, e12, e13, trivial⟩, h⟩
      clear h
      rintro l26 ρ w8 ⟨e3, e4, e5, e6, e7, e11, e12, e13, -⟩ h
      replace h := hk l26 w8 h
      clear hk
      refine wpC_seq ?_
      refine wpC_region ?_
      refine wpR_val (v := (Value.map r1)) (w' := w8) rfl rfl rfl (x_move (v := (Value.map r1)) rfl e4) ?_
      obtain ⟨x31, q31, h⟩ := h
      obtain ⟨x32, q32, h⟩ := h
      refine wpR_val (v := (Value.agg #[(Value.int .i64 x31), (Value.int .i64 x32)])) (w' := w8) rfl rfl rfl (x_loadN [(Value.int .i64 x31), (Value.int .i64 x32)] rfl e7 SH_54 (CellsAt.out (CellsAt.cons q31 (CellsAt.cons q32 CellsAt.nil)))) ?_
      obtain ⟨r33, w10, q33, h⟩ := h
      refine wpR_val (v := (Value.tuple #[(Value.int .i64 r33.1), (Value.bool r33.2)])) (w' := w10) rfl rfl rfl (x_lookup rfl rfl rfl q33) ?_
      refine wpR_val (v := (Value.tuple #[(Value.int .i64 r33.1), (Value.bool r33.2)])) (w' := w10) rfl rfl rfl (x_move (v := (Value.tuple #[(Value.int .i64 r33.1), (Value.bool r33.2)])) rfl rfl) ?_
      refine wpR_val (v := (Value.int .i64 r33.1)) (w' := w10) rfl rfl rfl (x_extract rfl rfl rfl) ?_
      refine wpR_val (v := (Value.bool r33.2)) (w' := w10) rfl rfl rfl (x_extract rfl rfl rfl) ?_
      refine wpR_val (v := (Value.int .i64 r33.1)) (w' := w10) rfl rfl rfl (x_assign (v := (Value.int .i64 r33.1)) rfl rfl) ?_
      refine wpR_val (v := (Value.bool r33.2)) (w' := w10) rfl rfl rfl (x_assign (v := (Value.bool r33.2)) rfl rfl) ?_
      refine wpR_nil ?_
      refine wpC_block ?_
      refine wpC_seq ?_
      refine wpC_cut (fun ρ => ρ 3 = (Sl.v l2.1) ∧ ρ 4 = (Value.map r1) ∧ ρ 5 = (Value.int .i64 l2.2) ∧ ρ 6 = (Value.pointer (some (Addr.mk b19 0 none))) ∧ ρ 7 = (Value.pointer (some (Addr.mk b23 0 none))) ∧ ρ 8 = (Value.int .i64 r33.1) ∧ ρ 9 = (Value.bool r33.2) ∧ ρ 11 = (Sl.v p0) ∧ ρ 12 = (Value.int .i64 (p0.len : Int)) ∧ ρ 13 = (Value.int .i64 l2.2) ∧ True) ⟨e3, e4, e5, e6, e7, rfl, rfl, e11, e12, e13, trivial⟩ ?_
      rintro ρ ⟨e3, e4, e5, e6, e7, e8, e9, e11, e12, e13, -⟩
      refine wpC_region ?_
      refine wpR_val (v := (Value.pointer (some ((Addr.mk b19 0 none).add 3)))) (w' := w10) rfl rfl rfl (x_fieldAddr rfl e6 FA_41_3) ?_
      obtain ⟨x34, q34, h⟩ := h
      refine wpR_val (v := (Value.int .i64 x34)) (w' := w10) rfl rfl rfl (x_load1 rfl rfl SH_3 q34) ?_
      refine wpR_val (v := (Value.bool (decide (x34 = 5)))) (w' := w10) rfl rfl rfl (x_eql rfl rfl rfl) ?_
      refine wpR_val (v := (Value.bool (decide (x34 = 5)))) (w' := w10) rfl rfl rfl (x_move (v := (Value.bool (decide (x34 = 5)))) rfl rfl) ?_
      refine wpR_joinJ 3 (fun (_ : Unit) ρ => ρ 42 = Value.bool ((decide (x34 = 5)) && (!r33.2)) ∧ ρ 3 = (Sl.v l2.1) ∧ ρ 4 = (Value.map r1) ∧ ρ 5 = (Value.int .i64 l2.2) ∧ ρ 6 = (Value.pointer (some (Addr.mk b19 0 none))) ∧ ρ 7 = (Value.pointer (some (Addr.mk b23 0 none))) ∧ ρ 8 = (Value.int .i64 r33.1) ∧ ρ 9 = (Value.bool r33.2) ∧ ρ 11 = (Sl.v p0) ∧ ρ 12 = (Value.int .i64 (p0.len : Int)) ∧ ρ 13 = (Value.int .i64 l2.2) ∧ True) (fun _ w => w10 = w) ?_ ?_
      · clear h
        rcases Bool.eq_false_or_eq_true (decide (x34 = 5)) with hc36 | hc36
        · skip
          refine wpR_val (v := (Value.bool r33.2)) (w' := w10) (wantG rfl rfl rfl hc36) rfl rfl (x_move (v := (Value.bool r33.2)) rfl e9) ?_
          refine wpR_val (v := (Value.bool (!r33.2))) (w' := w10) (wantG rfl rfl rfl hc36) rfl rfl (x_not rfl rfl) ?_
          refine wpR_val (v := (Value.bool (!r33.2))) (w' := w10) rfl rfl rfl (x_pickT (v := (Value.bool (!r33.2))) rfl rfl hc36 rfl) ?_
          refine wpR_nil ?_
          exact ⟨(), ⟨(by rw [hc36]; rfl), e3, e4, e5, e6, e7, e8, e9, e11, e12, e13, trivial⟩, rfl⟩
        · skip
          refine wpR_pass (wantN rfl rfl rfl hc36) rfl rfl ?_
          refine wpR_pass (wantN rfl rfl rfl hc36) rfl rfl ?_
          refine wpR_val (v := (Value.bool false)) (w' := w10) rfl rfl rfl (x_pickF (v := (Value.bool false)) rfl rfl hc36 rfl) ?_
          refine wpR_nil ?_
          exact ⟨(), ⟨(by rw [hc36]; rfl), e3, e4, e5, e6, e7, e8, e9, e11, e12, e13, trivial⟩, rfl⟩
      rintro _ ρ wj ⟨e42, e3, e4, e5, e6, e7, e8, e9, e11, e12, e13, -⟩ rfl
      refine wpR_val (v := (Value.bool ((decide (x34 = 5)) && (!r33.2)))) (w' := w10) rfl rfl rfl (x_assign (v := (Value.bool ((decide (x34 = 5)) && (!r33.2)))) rfl e42) ?_
      refine wpR_nil ?_
      refine wpC_cond (b := (decide (x34 = 5)) && (!r33.2)) rfl (fun hc37 => ?_) (fun hc37 => ?_)
      · replace h := h.1 hc37
        refine wpC_seq ?_
        refine wpC_cut (fun ρ => ρ 3 = (Sl.v l2.1) ∧ ρ 4 = (Value.map r1) ∧ ρ 5 = (Value.int .i64 l2.2) ∧ ρ 7 = (Value.pointer (some (Addr.mk b23 0 none))) ∧ ρ 11 = (Sl.v p0) ∧ ρ 12 = (Value.int .i64 (p0.len : Int)) ∧ ρ 13 = (Value.int .i64 l2.2) ∧ True) ⟨e3, e4, e5, e7, e11, e12, e13, trivial⟩ ?_
        rintro ρ ⟨e3, e4, e5, e7, e11, e12, e13, -⟩
        refine wpC_region ?_
        refine wpR_val (v := (Value.map r1)) (w' := w10) rfl rfl rfl (x_move (v := (Value.map r1)) rfl e4) ?_
        obtain ⟨x38, q38, h⟩ := h
        obtain ⟨x39, q39, h⟩ := h
        refine wpR_val (v := (Value.agg #[(Value.int .i64 x38), (Value.int .i64 x39)])) (w' := w10) rfl rfl rfl (x_loadN [(Value.int .i64 x38), (Value.int .i64 x39)] rfl e7 SH_54 (CellsAt.out (CellsAt.cons q38 (CellsAt.cons q39 CellsAt.nil)))) ?_
        refine wpR_val (v := (Sl.v l2.1)) (w' := w10) rfl rfl rfl (x_move (v := (Sl.v l2.1)) rfl e3) ?_
        refine wpR_val (v := (Value.int .i64 (l2.1.len : Int))) (w' := w10) rfl rfl rfl (x_lenS (s := l2.1) rfl rfl isSliceT_37) ?_
        obtain ⟨w11, q40, h⟩ := h
        refine wpR_skp (w' := w11) rfl rfl (x_mapUpdate rfl rfl rfl rfl q40) ?_
        refine wpR_nil ?_
        refine wpC_cut (fun ρ => ρ 3 = (Sl.v l2.1) ∧ ρ 4 = (Value.map r1) ∧ ρ 5 = (Value.int .i64 l2.2) ∧ ρ 7 = (Value.pointer (some (Addr.mk b23 0 none))) ∧ ρ 11 = (Sl.v p0) ∧ ρ 12 = (Value.int .i64 (p0.len : Int)) ∧ ρ 13 = (Value.int .i64 l2.2) ∧ True) ⟨e3, e4, e5, e7, e11, e12, e13, trivial⟩ ?_
        rintro ρ ⟨e3, e4, e5, e7, e11, e12, e13, -⟩
        refine wpC_region ?_
        refine wpR_val (v := (Sl.v l2.1)) (w' := w11) rfl rfl rfl (x_move (v := (Sl.v l2.1)) rfl e3) ?_
        refine wpR_val (v := (Value.pointer (some ((Addr.mk b23 0 none).add 0)))) (w' := w11) rfl rfl rfl (x_fieldAddr rfl e7 FA_54_0) ?_
        obtain ⟨x41, q41, h⟩ := h
        refine wpR_val (v := (Value.int .i64 x41)) (w' := w11) rfl rfl rfl (x_load1 rfl rfl SH_3 q41) ?_
        refine wpR_val (v := (Value.pointer (some ((Addr.mk b23 0 none).add 1)))) (w' := w11) rfl rfl rfl (x_fieldAddr rfl e7 FA_54_1) ?_
        obtain ⟨x42, q42, h⟩ := h
        refine wpR_val (v := (Value.int .i64 x42)) (w' := w11) rfl rfl rfl (x_load1 rfl rfl SH_3 q42) ?_
        refine wpR_val (v := (Value.int .i64 l2.2)) (w' := w11) rfl rfl rfl (x_move (v := (Value.int .i64 l2.2)) rfl e5) ?_
        refine wpR_val (v := (Value.agg #[(Value.int .i64 x41), (Value.int .i64 x42), (Value.int .i64 l2.2), (Value.int .i64 (-1))])) (w' := w11) rfl rfl rfl (x_build (qs := [(0, (Value.int .i64 x41)), (1, (Value.int .i64 x42)), (2, (Value.int .i64 l2.2)), (3, (Value.int .i64 (-1)))]) rfl (by rfl) (BD_43_0_1_2_3 x41 x42 l2.2 (-1) _)) ?_
        obtain ⟨b43, hb43⟩ : ∃ u, u = w11.heap.size := ⟨_, rfl⟩
        obtain ⟨w12, hw43⟩ : ∃ u, u = w11.alloc (.cells #[(Value.int .i64 x41), (Value.int .i64 x42), (Value.int .i64 l2.2), (Value.int .i64 (-1))] 43) := ⟨_, rfl⟩
        replace h := h b43 w12 hb43 hw43
        refine wpR_val (v := (Sl.v (⟨some ⟨b43, 0, none⟩, 1, 1⟩ : Sl))) (w' := w12) rfl rfl rfl ((x_buildSlice (qs := [(0, (Value.agg #[(Value.int .i64 x41), (Value.int .i64 x42), (Value.int .i64 l2.2), (Value.int .i64 (-1))]))]) rfl (by rfl) (BS_37_1_0 x41 x42 l2.2 (-1))).trans (by rw [← hb43, ← hw43])) ?_
        obtain ⟨r44, w13, q44, h⟩ := h
        refine wpR_val (v := (Sl.v r44)) (w' := w13) rfl rfl rfl (x_append (s := l2.1) (u := (⟨some ⟨b43, 0, none⟩, 1, 1⟩ : Sl)) rfl rfl rfl rfl q44) ?_
        refine wpR_val (v := (Sl.v r44)) (w' := w13) rfl rfl rfl (x_assign (v := (Sl.v r44)) rfl rfl) ?_
        refine wpR_nil ?_
        exact ⟨r44, ⟨rfl, e4, e11, e12, e13, trivial⟩, h⟩
      · replace h := h.2 hc37
        refine wpC_seq ?_
        refine wpC_cut (fun ρ => ρ 3 = (Sl.v l2.1) ∧ ρ 4 = (Value.map r1) ∧ ρ 5 = (Value.int .i64 l2.2) ∧ ρ 6 = (Value.pointer (some (Addr.mk b19 0 none))) ∧ ρ 7 = (Value.pointer (some (Addr.mk b23 0 none))) ∧ ρ 8 = (Value.int .i64 r33.1) ∧ ρ 9 = (Value.bool r33.2) ∧ ρ 11 = (Sl.v p0) ∧ ρ 12 = (Value.int .i64 (p0.len : Int)) ∧ ρ 13 = (Value.int .i64 l2.2) ∧ True) ⟨e3, e4, e5, e6, e7, e8, e9, e11, e12, e13, trivial⟩ ?_
        rintro ρ ⟨e3, e4, e5, e6, e7, e8, e9, e11, e12, e13, -⟩
        refine wpC_region ?_
        refine wpR_val (v := (Value.pointer (some ((Addr.mk b19 0 none).add 3)))) (w' := w10) rfl rfl rfl (x_fieldAddr rfl e6 FA_41_3) ?_
        obtain ⟨x45, q45, h⟩ := h
        refine wpR_val (v := (Value.int .i64 x45)) (w' := w10) rfl rfl rfl (x_load1 rfl rfl SH_3 q45) ?_
        refine wpR_val (v := (Value.bool (decide (x45 = 6)))) (w' := w10) rfl rfl rfl (x_eql rfl rfl rfl) ?_
        refine wpR_val (v := (Value.bool (decide (x45 = 6)))) (w' := w10) rfl rfl rfl (x_move (v := (Value.bool (decide (x45 = 6)))) rfl rfl) ?_
        obtain ⟨J46, h, hk⟩ := h
        refine wpR_joinJ 4 (fun x ρ => ρ 64 = Value.bool x ∧ ρ 3 = (Sl.v l2.1) ∧ ρ 4 = (Value.map r1) ∧ ρ 5 = (Value.int .i64 l2.2) ∧ ρ 7 = (Value.pointer (some (Addr.mk b23 0 none))) ∧ ρ 8 = (Value.int .i64 r33.1) ∧ ρ 9 = (Value.bool r33.2) ∧ ρ 11 = (Sl.v p0) ∧ ρ 12 = (Value.int .i64 (p0.len : Int)) ∧ ρ 13 = (Value.int .i64 l2.2) ∧ True) (fun x w => J46 x ∧ w10 = w) ?_ ?_
        · clear hk
          rcases Bool.eq_false_or_eq_true (decide (x45 = 6)) with hc47 | hc47
          · replace h := h.1 hc47
            refine wpR_pass (wantN rfl rfl rfl hc47) rfl rfl ?_
            refine wpR_pass (wantN rfl rfl rfl hc47) rfl rfl ?_
            refine wpR_pass (wantN rfl rfl rfl hc47) rfl rfl ?_
            refine wpR_val (v := (Value.bool true)) (w' := w10) rfl rfl rfl (x_pickT (v := (Value.bool true)) rfl rfl hc47 rfl) ?_
            refine wpR_nil ?_
            exact ⟨true, ⟨rfl, e3, e4, e5, e7, e8, e9, e11, e12, e13, trivial⟩, h, rfl⟩
          · replace h := h.2 hc47
            refine wpR_val (v := (Value.pointer (some ((Addr.mk b19 0 none).add 3)))) (w' := w10) (wantG rfl rfl rfl hc47) rfl rfl (x_fieldAddr rfl e6 FA_41_3) ?_
            obtain ⟨x48, q48, h⟩ := h
            refine wpR_val (v := (Value.int .i64 x48)) (w' := w10) (wantG rfl rfl rfl hc47) rfl rfl (x_load1 rfl rfl SH_3 q48) ?_
            refine wpR_val (v := (Value.bool (decide (x48 = 7)))) (w' := w10) (wantG rfl rfl rfl hc47) rfl rfl (x_eql rfl rfl rfl) ?_
            refine wpR_val (v := (Value.bool (decide (x48 = 7)))) (w' := w10) rfl rfl rfl (x_pickF (v := (Value.bool (decide (x48 = 7)))) rfl rfl hc47 rfl) ?_
            refine wpR_nil ?_
            exact ⟨decide (x48 = 7), ⟨rfl, e3, e4, e5, e7, e8, e9, e11, e12, e13, trivial⟩, h, rfl⟩
        clear h
        rintro c49 ρ wj ⟨e64, e3, e4, e5, e7, e8, e9, e11, e12, e13, -⟩ ⟨h, rfl⟩
        replace h := hk c49 h
        clear hk
        refine wpR_val (v := (Value.bool c49)) (w' := w10) rfl rfl rfl (x_move (v := (Value.bool c49)) rfl e64) ?_
        refine wpR_joinJ 2 (fun (_ : Unit) ρ => ρ 67 = Value.bool (c49 && r33.2) ∧ ρ 3 = (Sl.v l2.1) ∧ ρ 4 = (Value.map r1) ∧ ρ 5 = (Value.int .i64 l2.2) ∧ ρ 7 = (Value.pointer (some (Addr.mk b23 0 none))) ∧ ρ 8 = (Value.int .i64 r33.1) ∧ ρ 11 = (Sl.v p0) ∧ ρ 12 = (Value.int .i64 (p0.len : Int)) ∧ ρ 13 = (Value.int .i64 l2.2) ∧ True) (fun _ w => w10 = w) ?_ ?_
        · clear h
          rcases Bool.eq_false_or_eq_true (c49) with hc51 | hc51
          · skip
            refine wpR_val (v := (Value.bool r33.2)) (w' := w10) (wantG rfl rfl rfl hc51) rfl rfl (x_move (v := (Value.bool r33.2)) rfl e9) ?_
            refine wpR_val (v := (Value.bool r33.2)) (w' := w10) rfl rfl rfl (x_pickT (v := (Value.bool r33.2)) rfl rfl hc51 rfl) ?_
            refine wpR_nil ?_
            exact ⟨(), ⟨(by rw [hc51]; rfl), e3, e4, e5, e7, e8, e11, e12, e13, trivial⟩, rfl⟩
          · skip
            refine wpR_pass (wantN rfl rfl rfl hc51) rfl rfl ?_
            refine wpR_val (v := (Value.bool false)) (w' := w10) rfl rfl rfl (x_pickF (v := (Value.bool false)) rfl rfl hc51 rfl) ?_
            refine wpR_nil ?_
            exact ⟨(), ⟨(by rw [hc51]; rfl), e3, e4, e5, e7, e8, e11, e12, e13, trivial⟩, rfl⟩
        rintro _ ρ wj ⟨e67, e3, e4, e5, e7, e8, e11, e12, e13, -⟩ rfl
        refine wpR_val (v := (Value.bool (c49 && r33.2))) (w' := w10) rfl rfl rfl (x_assign (v := (Value.bool (c49 && r33.2))) rfl e67) ?_
        refine wpR_nil ?_
        refine wpC_cond (b := c49 && r33.2) rfl (fun hc52 => ?_) (fun hc52 => ?_)
        · replace h := h.1 hc52
          refine wpC_seq ?_
          refine wpC_cut (fun ρ => ρ 3 = (Sl.v l2.1) ∧ ρ 4 = (Value.map r1) ∧ ρ 5 = (Value.int .i64 l2.2) ∧ ρ 7 = (Value.pointer (some (Addr.mk b23 0 none))) ∧ ρ 8 = (Value.int .i64 r33.1) ∧ ρ 11 = (Sl.v p0) ∧ ρ 12 = (Value.int .i64 (p0.len : Int)) ∧ ρ 13 = (Value.int .i64 l2.2) ∧ True) ⟨e3, e4, e5, e7, e8, e11, e12, e13, trivial⟩ ?_
          rintro ρ ⟨e3, e4, e5, e7, e8, e11, e12, e13, -⟩
          refine wpC_region ?_
          refine wpR_val (v := (Sl.v l2.1)) (w' := w10) rfl rfl rfl (x_move (v := (Sl.v l2.1)) rfl e3) ?_
          refine wpR_val (v := (Value.int .i64 r33.1)) (w' := w10) rfl rfl rfl (x_move (v := (Value.int .i64 r33.1)) rfl e8) ?_
          refine wpR_val (v := (Value.int .i64 l2.2)) (w' := w10) rfl rfl rfl (x_move (v := (Value.int .i64 l2.2)) rfl e5) ?_
          obtain ⟨q53, z53, r53, h⟩ := h
          generalize hp53 : z53.add ((r33.1 : Int).toNat * 4) = p53 at h
          refine wpR_val (v := (Value.pointer (some p53))) (w' := w10) rfl rfl rfl ((x_indexAddr (s := l2.1) rfl rfl rfl ES_37 q53 r53).trans (by rw [hp53])) ?_
          refine wpR_val (v := (Value.pointer (some (p53.add 3)))) (w' := w10) rfl rfl rfl (x_fieldAddr rfl rfl FA_43_3) ?_
          obtain ⟨q54, h⟩ := h
          obtain ⟨w14, hw54⟩ : ∃ u, u = setAll w10 (p53.add 3) [(Value.int .i64 l2.2)] 0 := ⟨_, rfl⟩
          replace h := h w14 hw54
          refine wpR_skp (w' := w14) rfl rfl ((x_store (v := (Value.int .i64 l2.2)) rfl rfl rfl SZ_3 (ones (by rfl)) q54).trans (by rw [hw54]; rfl)) ?_
          refine wpR_nil ?_
          refine wpC_cut (fun ρ => ρ 3 = (Sl.v l2.1) ∧ ρ 4 = (Value.map r1) ∧ ρ 7 = (Value.pointer (some (Addr.mk b23 0 none))) ∧ ρ 11 = (Sl.v p0) ∧ ρ 12 = (Value.int .i64 (p0.len : Int)) ∧ ρ 13 = (Value.int .i64 l2.2) ∧ True) ⟨e3, e4, e7, e11, e12, e13, trivial⟩ ?_
          rintro ρ ⟨e3, e4, e7, e11, e12, e13, -⟩
          refine wpC_region ?_
          refine wpR_val (v := (Value.map r1)) (w' := w14) rfl rfl rfl (x_move (v := (Value.map r1)) rfl e4) ?_
          obtain ⟨x55, q55, h⟩ := h
          obtain ⟨x56, q56, h⟩ := h
          refine wpR_val (v := (Value.agg #[(Value.int .i64 x55), (Value.int .i64 x56)])) (w' := w14) rfl rfl rfl (x_loadN [(Value.int .i64 x55), (Value.int .i64 x56)] rfl e7 SH_54 (CellsAt.out (CellsAt.cons q55 (CellsAt.cons q56 CellsAt.nil)))) ?_
          obtain ⟨r57, w15, q57, h⟩ := h
          refine wpR_val0 (v := (Value.tuple #[])) (w' := w15) rfl rfl (x_delete rfl rfl rfl rfl q57) ?_
          refine wpR_nil ?_
          exact ⟨l2.1, ⟨e3, e4, e11, e12, e13, trivial⟩, h⟩
        · replace h := h.2 hc52
          refine wpC_skip ?_
          exact ⟨l2.1, ⟨e3, e4, e11, e12, e13, trivial⟩, h⟩
    clear h
    rintro l5 ρ w3 ⟨e3, e4, e11, e12, e13, -⟩ h
    replace h := hk l5 w3 h
    clear hk
    refine wpC_region ?_
    refine wpR_val (v := (Value.int .i64 (IntKind.i64.wrap (l2.2 + 1)))) (w' := w3) rfl rfl rfl (x_add rfl e13 rfl) ?_
    refine wpR_val (v := (Value.int .i64 (IntKind.i64.wrap (l2.2 + 1)))) (w' := w3) rfl rfl rfl (x_move (v := (Value.int .i64 (IntKind.i64.wrap (l2.2 + 1)))) rfl rfl) ?_
    refine wpR_nil ?_
    exact ⟨(l5, IntKind.i64.wrap (l2.2 + 1)), ⟨e3, rfl, e4, e11, e12, trivial⟩, h⟩
  · replace h := h.2 hc3
    refine wpC_exit ?_
    refine wpC_seq ?_
    refine wpC_cut (fun ρ => ρ 3 = (Sl.v l2.1) ∧ True) ⟨e3, trivial⟩ ?_
    rintro ρ ⟨e3, -⟩
    refine wpC_region ?_
    refine wpR_val (v := (Sl.v l2.1)) (w' := w2) rfl rfl rfl (x_move (v := (Sl.v l2.1)) rfl e3) ?_
    refine wpR_val (v := (Sl.v l2.1)) (w' := w2) rfl rfl rfl (x_assign (v := (Sl.v l2.1)) rfl rfl) ?_
    refine wpR_nil ?_
    refine wpC_ret ?_
    exact ⟨.inl rfl, fun a ha => ⟨_, results_rep1 rfl ha rfl, l2.1, rfl, h⟩⟩

/-- event.Net -/
def F18 (p0 : Int) (w0 : World) (K : Int → World → Prop) : Prop :=
  callC Try.prog 28 #[(Value.int .i64 p0), (Value.int .i64 2000)] (fun (r : Bool) => (Value.bool r)) w0 fun r1 w1 =>
  cnd (!r1)
    (
    K (-1) w1
    )
    (
    K (p0.tmod 12) w1
    )
set_option maxRecDepth 100000 in
theorem D18 (p0 : Int) (w0 : World) (K : Int → World → Prop) (h : F18 p0 w0 K) : callC Try.prog 18 #[(Value.int .i64 p0)] (fun (r : Int) => (Value.int .i64 r)) w0 K := by
  unfold F18 at h
  refine calls_of_wpC Try.func18 rfl 8 rfl (by simp) ?_
  intro ρ hρ
  have e0 : ρ 0 = (Value.int .i64 p0) := hρ 0
  clear hρ
  refine wpC_seq ?_
  refine wpC_region ?_
  refine wpR_val (v := (Value.int .i64 0)) (w' := w0) rfl rfl rfl (x_assign (v := (Value.int .i64 0)) rfl rfl) ?_
  refine wpR_nil ?_
  refine wpC_seq ?_
  refine wpC_seq ?_
  refine wpC_cut (fun ρ => ρ 0 = (Value.int .i64 p0) ∧ True) ⟨e0, trivial⟩ ?_
  rintro ρ ⟨e0, -⟩
  refine wpC_region ?_
  refine wpR_val (v := (Value.int .i64 p0)) (w' := w0) rfl rfl rfl (x_move (v := (Value.int .i64 p0)) rfl e0) ?_
  refine wpR_enter rfl rfl rfl (x_call (vs := [(Value.int .i64 p0), (Value.int .i64 2000)]) rfl rfl (mapl_cons rfl (mapl_cons rfl mapl_nil)) Try.func28 NN_28 NB_28) (Calls.mono h ?_)
  rintro _ w1 ⟨r1, rfl, h⟩
  refine ⟨_, rfl, ?_⟩
  refine wpR_val (v := (Value.bool (!r1))) (w' := w1) rfl rfl rfl (x_not rfl rfl) ?_
  refine wpR_nil ?_
  refine wpC_cond (b := !r1) rfl (fun hc2 => ?_) (fun hc2 => ?_)
  · replace h := h.1 hc2
    refine wpC_seq ?_
    refine wpC_cut (fun ρ => True) trivial ?_
    rintro ρ -
    refine wpC_region ?_
    refine wpR_val (v := (Value.int .i64 (-1))) (w' := w1) rfl rfl rfl (x_assign (v := (Value.int .i64 (-1))) rfl rfl) ?_
    refine wpR_nil ?_
    refine wpC_ret ?_
    exact ⟨.inl rfl, fun a ha => ⟨_, results_rep1 rfl ha rfl, (-1), rfl, h⟩⟩
  · replace h := h.2 hc2
    refine wpC_skip ?_
    refine wpC_seq ?_
    refine wpC_cut (fun ρ => ρ 0 = (Value.int .i64 p0) ∧ True) ⟨e0, trivial⟩ ?_
    rintro ρ ⟨e0, -⟩
    refine wpC_region ?_
    refine wpR_val (v := (Value.int .i64 p0)) (w' := w1) rfl rfl rfl (x_move (v := (Value.int .i64 p0)) rfl e0) ?_
    refine wpR_val (v := (Value.int .i64 (p0.tmod 12))) (w' := w1) rfl rfl rfl (x_rem rfl rfl rfl (by decide)) ?_
    refine wpR_val (v := (Value.int .i64 (p0.tmod 12))) (w' := w1) rfl rfl rfl (x_assign (v := (Value.int .i64 (p0.tmod 12))) rfl rfl) ?_
    refine wpR_nil ?_
    refine wpC_ret ?_
    exact ⟨.inl rfl, fun a ha => ⟨_, results_rep1 rfl ha rfl, p0.tmod 12, rfl, h⟩⟩

/-- lingualaw18.story -/
def F19  (w0 : World) (K : Sl → World → Prop) : Prop :=
  callC Try.prog 29 #[(Value.int .i64 5), (Value.int .i64 12)] (fun (r : Int × Int × Sl × Int × Int × Int × Int × Int × Int × ByteArray × Sl × Int) => (Value.agg #[(Value.int .i64 r.1), (Value.int .i64 r.2.1), (Sl.v r.2.2.1), (Value.int .i64 r.2.2.2.1), (Value.int .i64 r.2.2.2.2.1), (Value.int .i64 r.2.2.2.2.2.1), (Value.int .i64 r.2.2.2.2.2.2.1), (Value.int .i64 r.2.2.2.2.2.2.2.1), (Value.int .i64 r.2.2.2.2.2.2.2.2.1), (Value.string r.2.2.2.2.2.2.2.2.2.1), (Sl.v r.2.2.2.2.2.2.2.2.2.2.1), (Value.int .i64 r.2.2.2.2.2.2.2.2.2.2.2)])) w0 fun r1 w1 =>
  callC Try.prog 29 #[(Value.int .i64 0), (Value.int .i64 (-1))] (fun (r : Int × Int × Sl × Int × Int × Int × Int × Int × Int × ByteArray × Sl × Int) => (Value.agg #[(Value.int .i64 r.1), (Value.int .i64 r.2.1), (Sl.v r.2.2.1), (Value.int .i64 r.2.2.2.1), (Value.int .i64 r.2.2.2.2.1), (Value.int .i64 r.2.2.2.2.2.1), (Value.int .i64 r.2.2.2.2.2.2.1), (Value.int .i64 r.2.2.2.2.2.2.2.1), (Value.int .i64 r.2.2.2.2.2.2.2.2.1), (Value.string r.2.2.2.2.2.2.2.2.2.1), (Sl.v r.2.2.2.2.2.2.2.2.2.2.1), (Value.int .i64 r.2.2.2.2.2.2.2.2.2.2.2)])) w1 fun r2 w2 =>
  callC Try.prog 29 #[(Value.int .i64 5), (Value.int .i64 1)] (fun (r : Int × Int × Sl × Int × Int × Int × Int × Int × Int × ByteArray × Sl × Int) => (Value.agg #[(Value.int .i64 r.1), (Value.int .i64 r.2.1), (Sl.v r.2.2.1), (Value.int .i64 r.2.2.2.1), (Value.int .i64 r.2.2.2.2.1), (Value.int .i64 r.2.2.2.2.2.1), (Value.int .i64 r.2.2.2.2.2.2.1), (Value.int .i64 r.2.2.2.2.2.2.2.1), (Value.int .i64 r.2.2.2.2.2.2.2.2.1), (Value.string r.2.2.2.2.2.2.2.2.2.1), (Sl.v r.2.2.2.2.2.2.2.2.2.2.1), (Value.int .i64 r.2.2.2.2.2.2.2.2.2.2.2)])) w2 fun r3 w3 =>
  callC Try.prog 29 #[(Value.int .i64 0), (Value.int .i64 (-1))] (fun (r : Int × Int × Sl × Int × Int × Int × Int × Int × Int × ByteArray × Sl × Int) => (Value.agg #[(Value.int .i64 r.1), (Value.int .i64 r.2.1), (Sl.v r.2.2.1), (Value.int .i64 r.2.2.2.1), (Value.int .i64 r.2.2.2.2.1), (Value.int .i64 r.2.2.2.2.2.1), (Value.int .i64 r.2.2.2.2.2.2.1), (Value.int .i64 r.2.2.2.2.2.2.2.1), (Value.int .i64 r.2.2.2.2.2.2.2.2.1), (Value.string r.2.2.2.2.2.2.2.2.2.1), (Sl.v r.2.2.2.2.2.2.2.2.2.2.1), (Value.int .i64 r.2.2.2.2.2.2.2.2.2.2.2)])) w3 fun r4 w4 =>
  callC Try.prog 29 #[(Value.int .i64 7), (Value.int .i64 1)] (fun (r : Int × Int × Sl × Int × Int × Int × Int × Int × Int × ByteArray × Sl × Int) => (Value.agg #[(Value.int .i64 r.1), (Value.int .i64 r.2.1), (Sl.v r.2.2.1), (Value.int .i64 r.2.2.2.1), (Value.int .i64 r.2.2.2.2.1), (Value.int .i64 r.2.2.2.2.2.1), (Value.int .i64 r.2.2.2.2.2.2.1), (Value.int .i64 r.2.2.2.2.2.2.2.1), (Value.int .i64 r.2.2.2.2.2.2.2.2.1), (Value.string r.2.2.2.2.2.2.2.2.2.1), (Sl.v r.2.2.2.2.2.2.2.2.2.2.1), (Value.int .i64 r.2.2.2.2.2.2.2.2.2.2.2)])) w4 fun r5 w5 =>
  callC Try.prog 29 #[(Value.int .i64 0), (Value.int .i64 (-1))] (fun (r : Int × Int × Sl × Int × Int × Int × Int × Int × Int × ByteArray × Sl × Int) => (Value.agg #[(Value.int .i64 r.1), (Value.int .i64 r.2.1), (Sl.v r.2.2.1), (Value.int .i64 r.2.2.2.1), (Value.int .i64 r.2.2.2.2.1), (Value.int .i64 r.2.2.2.2.2.1), (Value.int .i64 r.2.2.2.2.2.2.1), (Value.int .i64 r.2.2.2.2.2.2.2.1), (Value.int .i64 r.2.2.2.2.2.2.2.2.1), (Value.string r.2.2.2.2.2.2.2.2.2.1), (Sl.v r.2.2.2.2.2.2.2.2.2.2.1), (Value.int .i64 r.2.2.2.2.2.2.2.2.2.2.2)])) w5 fun r6 w6 =>
  callC Try.prog 29 #[(Value.int .i64 8), (Value.int .i64 (-1))] (fun (r : Int × Int × Sl × Int × Int × Int × Int × Int × Int × ByteArray × Sl × Int) => (Value.agg #[(Value.int .i64 r.1), (Value.int .i64 r.2.1), (Sl.v r.2.2.1), (Value.int .i64 r.2.2.2.1), (Value.int .i64 r.2.2.2.2.1), (Value.int .i64 r.2.2.2.2.2.1), (Value.int .i64 r.2.2.2.2.2.2.1), (Value.int .i64 r.2.2.2.2.2.2.2.1), (Value.int .i64 r.2.2.2.2.2.2.2.2.1), (Value.string r.2.2.2.2.2.2.2.2.2.1), (Sl.v r.2.2.2.2.2.2.2.2.2.2.1), (Value.int .i64 r.2.2.2.2.2.2.2.2.2.2.2)])) w6 fun r7 w7 =>
  callC Try.prog 29 #[(Value.int .i64 0), (Value.int .i64 (-1))] (fun (r : Int × Int × Sl × Int × Int × Int × Int × Int × Int × ByteArray × Sl × Int) => (Value.agg #[(Value.int .i64 r.1), (Value.int .i64 r.2.1), (Sl.v r.2.2.1), (Value.int .i64 r.2.2.2.1), (Value.int .i64 r.2.2.2.2.1), (Value.int .i64 r.2.2.2.2.2.1), (Value.int .i64 r.2.2.2.2.2.2.1), (Value.int .i64 r.2.2.2.2.2.2.2.1), (Value.int .i64 r.2.2.2.2.2.2.2.2.1), (Value.string r.2.2.2.2.2.2.2.2.2.1), (Sl.v r.2.2.2.2.2.2.2.2.2.2.1), (Value.int .i64 r.2.2.2.2.2.2.2.2.2.2.2)])) w7 fun r8 w8 =>
  nw 41 #[(Value.int .i64 r1.1), (Value.int .i64 r1.2.1), (Sl.v r1.2.2.1), (Value.int .i64 r1.2.2.2.1), (Value.int .i64 r1.2.2.2.2.1), (Value.int .i64 r1.2.2.2.2.2.1), (Value.int .i64 r1.2.2.2.2.2.2.1), (Value.int .i64 r1.2.2.2.2.2.2.2.1), (Value.int .i64 r1.2.2.2.2.2.2.2.2.1), (Value.string r1.2.2.2.2.2.2.2.2.2.1), (Sl.v r1.2.2.2.2.2.2.2.2.2.2.1), (Value.int .i64 r1.2.2.2.2.2.2.2.2.2.2.2), (Value.int .i64 r2.1), (Value.int .i64 r2.2.1), (Sl.v r2.2.2.1), (Value.int .i64 r2.2.2.2.1), (Value.int .i64 r2.2.2.2.2.1), (Value.int .i64 r2.2.2.2.2.2.1), (Value.int .i64 r2.2.2.2.2.2.2.1), (Value.int .i64 r2.2.2.2.2.2.2.2.1), (Value.int .i64 r2.2.2.2.2.2.2.2.2.1), (Value.string r2.2.2.2.2.2.2.2.2.2.1), (Sl.v r2.2.2.2.2.2.2.2.2.2.2.1), (Value.int .i64 r2.2.2.2.2.2.2.2.2.2.2.2), (Value.int .i64 r3.1), (Value.int .i64 r3.2.1), (Sl.v r3.2.2.1), (Value.int .i64 r3.2.2.2.1), (Value.int .i64 r3.2.2.2.2.1), (Value.int .i64 r3.2.2.2.2.2.1), (Value.int .i64 r3.2.2.2.2.2.2.1), (Value.int .i64 r3.2.2.2.2.2.2.2.1), (Value.int .i64 r3.2.2.2.2.2.2.2.2.1), (Value.string r3.2.2.2.2.2.2.2.2.2.1), (Sl.v r3.2.2.2.2.2.2.2.2.2.2.1), (Value.int .i64 r3.2.2.2.2.2.2.2.2.2.2.2), (Value.int .i64 r4.1), (Value.int .i64 r4.2.1), (Sl.v r4.2.2.1), (Value.int .i64 r4.2.2.2.1), (Value.int .i64 r4.2.2.2.2.1), (Value.int .i64 r4.2.2.2.2.2.1), (Value.int .i64 r4.2.2.2.2.2.2.1), (Value.int .i64 r4.2.2.2.2.2.2.2.1), (Value.int .i64 r4.2.2.2.2.2.2.2.2.1), (Value.string r4.2.2.2.2.2.2.2.2.2.1), (Sl.v r4.2.2.2.2.2.2.2.2.2.2.1), (Value.int .i64 r4.2.2.2.2.2.2.2.2.2.2.2), (Value.int .i64 r5.1), (Value.int .i64 r5.2.1), (Sl.v r5.2.2.1), (Value.int .i64 r5.2.2.2.1), (Value.int .i64 r5.2.2.2.2.1), (Value.int .i64 r5.2.2.2.2.2.1), (Value.int .i64 r5.2.2.2.2.2.2.1), (Value.int .i64 r5.2.2.2.2.2.2.2.1), (Value.int .i64 r5.2.2.2.2.2.2.2.2.1), (Value.string r5.2.2.2.2.2.2.2.2.2.1), (Sl.v r5.2.2.2.2.2.2.2.2.2.2.1), (Value.int .i64 r5.2.2.2.2.2.2.2.2.2.2.2), (Value.int .i64 r6.1), (Value.int .i64 r6.2.1), (Sl.v r6.2.2.1), (Value.int .i64 r6.2.2.2.1), (Value.int .i64 r6.2.2.2.2.1), (Value.int .i64 r6.2.2.2.2.2.1), (Value.int .i64 r6.2.2.2.2.2.2.1), (Value.int .i64 r6.2.2.2.2.2.2.2.1), (Value.int .i64 r6.2.2.2.2.2.2.2.2.1), (Value.string r6.2.2.2.2.2.2.2.2.2.1), (Sl.v r6.2.2.2.2.2.2.2.2.2.2.1), (Value.int .i64 r6.2.2.2.2.2.2.2.2.2.2.2), (Value.int .i64 r7.1), (Value.int .i64 r7.2.1), (Sl.v r7.2.2.1), (Value.int .i64 r7.2.2.2.1), (Value.int .i64 r7.2.2.2.2.1), (Value.int .i64 r7.2.2.2.2.2.1), (Value.int .i64 r7.2.2.2.2.2.2.1), (Value.int .i64 r7.2.2.2.2.2.2.2.1), (Value.int .i64 r7.2.2.2.2.2.2.2.2.1), (Value.string r7.2.2.2.2.2.2.2.2.2.1), (Sl.v r7.2.2.2.2.2.2.2.2.2.2.1), (Value.int .i64 r7.2.2.2.2.2.2.2.2.2.2.2), (Value.int .i64 r8.1), (Value.int .i64 r8.2.1), (Sl.v r8.2.2.1), (Value.int .i64 r8.2.2.2.1), (Value.int .i64 r8.2.2.2.2.1), (Value.int .i64 r8.2.2.2.2.2.1), (Value.int .i64 r8.2.2.2.2.2.2.1), (Value.int .i64 r8.2.2.2.2.2.2.2.1), (Value.int .i64 r8.2.2.2.2.2.2.2.2.1), (Value.string r8.2.2.2.2.2.2.2.2.2.1), (Sl.v r8.2.2.2.2.2.2.2.2.2.2.1), (Value.int .i64 r8.2.2.2.2.2.2.2.2.2.2.2)] w8 fun b9 w9 =>
  K (⟨some ⟨b9, 0, none⟩, 8, 8⟩ : Sl) w9
set_option maxRecDepth 100000 in
theorem D19  (w0 : World) (K : Sl → World → Prop) (h : F19  w0 K) : callC Try.prog 19 #[] (fun (r : Sl) => (Sl.v r)) w0 K := by
  unfold F19 at h
  refine calls_of_wpC Try.func19 rfl 10 rfl (by simp) ?_
  intro ρ hρ
  clear hρ
  refine wpC_seq ?_
  refine wpC_region ?_
  refine wpR_val (v := (Sl.v Sl.nil)) (w' := w0) rfl rfl rfl (x_assign (v := (Sl.v Sl.nil)) rfl rfl) ?_
  refine wpR_nil ?_
  refine wpC_seq ?_
  refine wpC_cut (fun ρ => True) trivial ?_
  rintro ρ -
  refine wpC_region ?_
  refine wpR_enter rfl rfl rfl (x_call (vs := [(Value.int .i64 5), (Value.int .i64 12)]) rfl rfl (mapl_cons rfl (mapl_cons rfl mapl_nil)) Try.func29 NN_29 NB_29) (Calls.mono h ?_)
  rintro _ w1 ⟨r1, rfl, h⟩
  refine ⟨_, rfl, ?_⟩
  refine wpR_enter rfl rfl rfl (x_call (vs := [(Value.int .i64 0), (Value.int .i64 (-1))]) rfl rfl (mapl_cons rfl (mapl_cons rfl mapl_nil)) Try.func29 NN_29 NB_29) (Calls.mono h ?_)
  rintro _ w2 ⟨r2, rfl, h⟩
  refine ⟨_, rfl, ?_⟩
  refine wpR_enter rfl rfl rfl (x_call (vs := [(Value.int .i64 5), (Value.int .i64 1)]) rfl rfl (mapl_cons rfl (mapl_cons rfl mapl_nil)) Try.func29 NN_29 NB_29) (Calls.mono h ?_)
  rintro _ w3 ⟨r3, rfl, h⟩
  refine ⟨_, rfl, ?_⟩
  refine wpR_enter rfl rfl rfl (x_call (vs := [(Value.int .i64 0), (Value.int .i64 (-1))]) rfl rfl (mapl_cons rfl (mapl_cons rfl mapl_nil)) Try.func29 NN_29 NB_29) (Calls.mono h ?_)
  rintro _ w4 ⟨r4, rfl, h⟩
  refine ⟨_, rfl, ?_⟩
  refine wpR_enter rfl rfl rfl (x_call (vs := [(Value.int .i64 7), (Value.int .i64 1)]) rfl rfl (mapl_cons rfl (mapl_cons rfl mapl_nil)) Try.func29 NN_29 NB_29) (Calls.mono h ?_)
  rintro _ w5 ⟨r5, rfl, h⟩
  refine ⟨_, rfl, ?_⟩
  refine wpR_enter rfl rfl rfl (x_call (vs := [(Value.int .i64 0), (Value.int .i64 (-1))]) rfl rfl (mapl_cons rfl (mapl_cons rfl mapl_nil)) Try.func29 NN_29 NB_29) (Calls.mono h ?_)
  rintro _ w6 ⟨r6, rfl, h⟩
  refine ⟨_, rfl, ?_⟩
  refine wpR_enter rfl rfl rfl (x_call (vs := [(Value.int .i64 8), (Value.int .i64 (-1))]) rfl rfl (mapl_cons rfl (mapl_cons rfl mapl_nil)) Try.func29 NN_29 NB_29) (Calls.mono h ?_)
  rintro _ w7 ⟨r7, rfl, h⟩
  refine ⟨_, rfl, ?_⟩
  refine wpR_enter rfl rfl rfl (x_call (vs := [(Value.int .i64 0), (Value.int .i64 (-1))]) rfl rfl (mapl_cons rfl (mapl_cons rfl mapl_nil)) Try.func29 NN_29 NB_29) (Calls.mono h ?_)
  rintro _ w8 ⟨r8, rfl, h⟩
  refine ⟨_, rfl, ?_⟩
  obtain ⟨b9, hb9⟩ : ∃ u, u = w8.heap.size := ⟨_, rfl⟩
  obtain ⟨w9, hw9⟩ : ∃ u, u = w8.alloc (.cells #[(Value.int .i64 r1.1), (Value.int .i64 r1.2.1), (Sl.v r1.2.2.1), (Value.int .i64 r1.2.2.2.1), (Value.int .i64 r1.2.2.2.2.1), (Value.int .i64 r1.2.2.2.2.2.1), (Value.int .i64 r1.2.2.2.2.2.2.1), (Value.int .i64 r1.2.2.2.2.2.2.2.1), (Value.int .i64 r1.2.2.2.2.2.2.2.2.1), (Value.string r1.2.2.2.2.2.2.2.2.2.1), (Sl.v r1.2.2.2.2.2.2.2.2.2.2.1), (Value.int .i64 r1.2.2.2.2.2.2.2.2.2.2.2), (Value.int .i64 r2.1), (Value.int .i64 r2.2.1), (Sl.v r2.2.2.1), (Value.int .i64 r2.2.2.2.1), (Value.int .i64 r2.2.2.2.2.1), (Value.int .i64 r2.2.2.2.2.2.1), (Value.int .i64 r2.2.2.2.2.2.2.1), (Value.int .i64 r2.2.2.2.2.2.2.2.1), (Value.int .i64 r2.2.2.2.2.2.2.2.2.1), (Value.string r2.2.2.2.2.2.2.2.2.2.1), (Sl.v r2.2.2.2.2.2.2.2.2.2.2.1), (Value.int .i64 r2.2.2.2.2.2.2.2.2.2.2.2), (Value.int .i64 r3.1), (Value.int .i64 r3.2.1), (Sl.v r3.2.2.1), (Value.int .i64 r3.2.2.2.1), (Value.int .i64 r3.2.2.2.2.1), (Value.int .i64 r3.2.2.2.2.2.1), (Value.int .i64 r3.2.2.2.2.2.2.1), (Value.int .i64 r3.2.2.2.2.2.2.2.1), (Value.int .i64 r3.2.2.2.2.2.2.2.2.1), (Value.string r3.2.2.2.2.2.2.2.2.2.1), (Sl.v r3.2.2.2.2.2.2.2.2.2.2.1), (Value.int .i64 r3.2.2.2.2.2.2.2.2.2.2.2), (Value.int .i64 r4.1), (Value.int .i64 r4.2.1), (Sl.v r4.2.2.1), (Value.int .i64 r4.2.2.2.1), (Value.int .i64 r4.2.2.2.2.1), (Value.int .i64 r4.2.2.2.2.2.1), (Value.int .i64 r4.2.2.2.2.2.2.1), (Value.int .i64 r4.2.2.2.2.2.2.2.1), (Value.int .i64 r4.2.2.2.2.2.2.2.2.1), (Value.string r4.2.2.2.2.2.2.2.2.2.1), (Sl.v r4.2.2.2.2.2.2.2.2.2.2.1), (Value.int .i64 r4.2.2.2.2.2.2.2.2.2.2.2), (Value.int .i64 r5.1), (Value.int .i64 r5.2.1), (Sl.v r5.2.2.1), (Value.int .i64 r5.2.2.2.1), (Value.int .i64 r5.2.2.2.2.1), (Value.int .i64 r5.2.2.2.2.2.1), (Value.int .i64 r5.2.2.2.2.2.2.1), (Value.int .i64 r5.2.2.2.2.2.2.2.1), (Value.int .i64 r5.2.2.2.2.2.2.2.2.1), (Value.string r5.2.2.2.2.2.2.2.2.2.1), (Sl.v r5.2.2.2.2.2.2.2.2.2.2.1), (Value.int .i64 r5.2.2.2.2.2.2.2.2.2.2.2), (Value.int .i64 r6.1), (Value.int .i64 r6.2.1), (Sl.v r6.2.2.1), (Value.int .i64 r6.2.2.2.1), (Value.int .i64 r6.2.2.2.2.1), (Value.int .i64 r6.2.2.2.2.2.1), (Value.int .i64 r6.2.2.2.2.2.2.1), (Value.int .i64 r6.2.2.2.2.2.2.2.1), (Value.int .i64 r6.2.2.2.2.2.2.2.2.1), (Value.string r6.2.2.2.2.2.2.2.2.2.1), (Sl.v r6.2.2.2.2.2.2.2.2.2.2.1), (Value.int .i64 r6.2.2.2.2.2.2.2.2.2.2.2), (Value.int .i64 r7.1), (Value.int .i64 r7.2.1), (Sl.v r7.2.2.1), (Value.int .i64 r7.2.2.2.1), (Value.int .i64 r7.2.2.2.2.1), (Value.int .i64 r7.2.2.2.2.2.1), (Value.int .i64 r7.2.2.2.2.2.2.1), (Value.int .i64 r7.2.2.2.2.2.2.2.1), (Value.int .i64 r7.2.2.2.2.2.2.2.2.1), (Value.string r7.2.2.2.2.2.2.2.2.2.1), (Sl.v r7.2.2.2.2.2.2.2.2.2.2.1), (Value.int .i64 r7.2.2.2.2.2.2.2.2.2.2.2), (Value.int .i64 r8.1), (Value.int .i64 r8.2.1), (Sl.v r8.2.2.1), (Value.int .i64 r8.2.2.2.1), (Value.int .i64 r8.2.2.2.2.1), (Value.int .i64 r8.2.2.2.2.2.1), (Value.int .i64 r8.2.2.2.2.2.2.1), (Value.int .i64 r8.2.2.2.2.2.2.2.1), (Value.int .i64 r8.2.2.2.2.2.2.2.2.1), (Value.string r8.2.2.2.2.2.2.2.2.2.1), (Sl.v r8.2.2.2.2.2.2.2.2.2.2.1), (Value.int .i64 r8.2.2.2.2.2.2.2.2.2.2.2)] 41) := ⟨_, rfl⟩
  replace h := h b9 w9 hb9 hw9
  refine wpR_val (v := (Sl.v (⟨some ⟨b9, 0, none⟩, 8, 8⟩ : Sl))) (w' := w9) rfl rfl rfl ((x_buildSlice (qs := [(0, (Value.agg #[(Value.int .i64 r1.1), (Value.int .i64 r1.2.1), (Sl.v r1.2.2.1), (Value.int .i64 r1.2.2.2.1), (Value.int .i64 r1.2.2.2.2.1), (Value.int .i64 r1.2.2.2.2.2.1), (Value.int .i64 r1.2.2.2.2.2.2.1), (Value.int .i64 r1.2.2.2.2.2.2.2.1), (Value.int .i64 r1.2.2.2.2.2.2.2.2.1), (Value.string r1.2.2.2.2.2.2.2.2.2.1), (Sl.v r1.2.2.2.2.2.2.2.2.2.2.1), (Value.int .i64 r1.2.2.2.2.2.2.2.2.2.2.2)])), (1, (Value.agg #[(Value.int .i64 r2.1), (Value.int .i64 r2.2.1), (Sl.v r2.2.2.1), (Value.int .i64 r2.2.2.2.1), (Value.int .i64 r2.2.2.2.2.1), (Value.int .i64 r2.2.2.2.2.2.1), (Value.int .i64 r2.2.2.2.2.2.2.1), (Value.int .i64 r2.2.2.2.2.2.2.2.1), (Value.int .i64 r2.2.2.2.2.2.2.2.2.1), (Value.string r2.2.2.2.2.2.2.2.2.2.1), (Sl.v r2.2.2.2.2.2.2.2.2.2.2.1), (Value.int .i64 r2.2.2.2.2.2.2.2.2.2.2.2)])), (2, (Value.agg #[(Value.int .i64 r3.1), (Value.int .i64 r3.2.1), (Sl.v r3.2.2.1), (Value.int .i64 r3.2.2.2.1), (Value.int .i64 r3.2.2.2.2.1), (Value.int .i64 r3.2.2.2.2.2.1), (Value.int .i64 r3.2.2.2.2.2.2.1), (Value.int .i64 r3.2.2.2.2.2.2.2.1), (Value.int .i64 r3.2.2.2.2.2.2.2.2.1), (Value.string r3.2.2.2.2.2.2.2.2.2.1), (Sl.v r3.2.2.2.2.2.2.2.2.2.2.1), (Value.int .i64 r3.2.2.2.2.2.2.2.2.2.2.2)])), (3, (Value.agg #[(Value.int .i64 r4.1), (Value.int .i64 r4.2.1), (Sl.v r4.2.2.1), (Value.int .i64 r4.2.2.2.1), (Value.int .i64 r4.2.2.2.2.1), (Value.int .i64 r4.2.2.2.2.2.1), (Value.int .i64 r4.2.2.2.2.2.2.1), (Value.int .i64 r4.2.2.2.2.2.2.2.1), (Value.int .i64 r4.2.2.2.2.2.2.2.2.1), (Value.string r4.2.2.2.2.2.2.2.2.2.1), (Sl.v r4.2.2.2.2.2.2.2.2.2.2.1), (Value.int .i64 r4.2.2.2.2.2.2.2.2.2.2.2)])), (4, (Value.agg #[(Value.int .i64 r5.1), (Value.int .i64 r5.2.1), (Sl.v r5.2.2.1), (Value.int .i64 r5.2.2.2.1), (Value.int .i64 r5.2.2.2.2.1), (Value.int .i64 r5.2.2.2.2.2.1), (Value.int .i64 r5.2.2.2.2.2.2.1), (Value.int .i64 r5.2.2.2.2.2.2.2.1), (Value.int .i64 r5.2.2.2.2.2.2.2.2.1), (Value.string r5.2.2.2.2.2.2.2.2.2.1), (Sl.v r5.2.2.2.2.2.2.2.2.2.2.1), (Value.int .i64 r5.2.2.2.2.2.2.2.2.2.2.2)])), (5, (Value.agg #[(Value.int .i64 r6.1), (Value.int .i64 r6.2.1), (Sl.v r6.2.2.1), (Value.int .i64 r6.2.2.2.1), (Value.int .i64 r6.2.2.2.2.1), (Value.int .i64 r6.2.2.2.2.2.1), (Value.int .i64 r6.2.2.2.2.2.2.1), (Value.int .i64 r6.2.2.2.2.2.2.2.1), (Value.int .i64 r6.2.2.2.2.2.2.2.2.1), (Value.string r6.2.2.2.2.2.2.2.2.2.1), (Sl.v r6.2.2.2.2.2.2.2.2.2.2.1), (Value.int .i64 r6.2.2.2.2.2.2.2.2.2.2.2)])), (6, (Value.agg #[(Value.int .i64 r7.1), (Value.int .i64 r7.2.1), (Sl.v r7.2.2.1), (Value.int .i64 r7.2.2.2.1), (Value.int .i64 r7.2.2.2.2.1), (Value.int .i64 r7.2.2.2.2.2.1), (Value.int .i64 r7.2.2.2.2.2.2.1), (Value.int .i64 r7.2.2.2.2.2.2.2.1), (Value.int .i64 r7.2.2.2.2.2.2.2.2.1), (Value.string r7.2.2.2.2.2.2.2.2.2.1), (Sl.v r7.2.2.2.2.2.2.2.2.2.2.1), (Value.int .i64 r7.2.2.2.2.2.2.2.2.2.2.2)])), (7, (Value.agg #[(Value.int .i64 r8.1), (Value.int .i64 r8.2.1), (Sl.v r8.2.2.1), (Value.int .i64 r8.2.2.2.1), (Value.int .i64 r8.2.2.2.2.1), (Value.int .i64 r8.2.2.2.2.2.1), (Value.int .i64 r8.2.2.2.2.2.2.1), (Value.int .i64 r8.2.2.2.2.2.2.2.1), (Value.int .i64 r8.2.2.2.2.2.2.2.2.1), (Value.string r8.2.2.2.2.2.2.2.2.2.1), (Sl.v r8.2.2.2.2.2.2.2.2.2.2.1), (Value.int .i64 r8.2.2.2.2.2.2.2.2.2.2.2)]))]) rfl (by rfl) (BS_23_8_0_1_2_3_4_5_6_7 r1.1 r1.2.1 r1.2.2.1 r1.2.2.2.1 r1.2.2.2.2.1 r1.2.2.2.2.2.1 r1.2.2.2.2.2.2.1 r1.2.2.2.2.2.2.2.1 r1.2.2.2.2.2.2.2.2.1 r1.2.2.2.2.2.2.2.2.2.1 r1.2.2.2.2.2.2.2.2.2.2.1 r1.2.2.2.2.2.2.2.2.2.2.2 r2.1 r2.2.1 r2.2.2.1 r2.2.2.2.1 r2.2.2.2.2.1 r2.2.2.2.2.2.1 r2.2.2.2.2.2.2.1 r2.2.2.2.2.2.2.2.1 r2.2.2.2.2.2.2.2.2.1 r2.2.2.2.2.2.2.2.2.2.1 r2.2.2.2.2.2.2.2.2.2.2.1 r2.2.2.2.2.2.2.2.2.2.2.2 r3.1 r3.2.1 r3.2.2.1 r3.2.2.2.1 r3.2.2.2.2.1 r3.2.2.2.2.2.1 r3.2.2.2.2.2.2.1 r3.2.2.2.2.2.2.2.1 r3.2.2.2.2.2.2.2.2.1 r3.2.2.2.2.2.2.2.2.2.1 r3.2.2.2.2.2.2.2.2.2.2.1 r3.2.2.2.2.2.2.2.2.2.2.2 r4.1 r4.2.1 r4.2.2.1 r4.2.2.2.1 r4.2.2.2.2.1 r4.2.2.2.2.2.1 r4.2.2.2.2.2.2.1 r4.2.2.2.2.2.2.2.1 r4.2.2.2.2.2.2.2.2.1 r4.2.2.2.2.2.2.2.2.2.1 r4.2.2.2.2.2.2.2.2.2.2.1 r4.2.2.2.2.2.2.2.2.2.2.2 r5.1 r5.2.1 r5.2.2.1 r5.2.2.2.1 r5.2.2.2.2.1 r5.2.2.2.2.2.1 r5.2.2.2.2.2.2.1 r5.2.2.2.2.2.2.2.1 r5.2.2.2.2.2.2.2.2.1 r5.2.2.2.2.2.2.2.2.2.1 r5.2.2.2.2.2.2.2.2.2.2.1 r5.2.2.2.2.2.2.2.2.2.2.2 r6.1 r6.2.1 r6.2.2.1 r6.2.2.2.1 r6.2.2.2.2.1 r6.2.2.2.2.2.1 r6.2.2.2.2.2.2.1 r6.2.2.2.2.2.2.2.1 r6.2.2.2.2.2.2.2.2.1 r6.2.2.2.2.2.2.2.2.2.1 r6.2.2.2.2.2.2.2.2.2.2.1 r6.2.2.2.2.2.2.2.2.2.2.2 r7.1 r7.2.1 r7.2.2.1 r7.2.2.2.1 r7.2.2.2.2.1 r7.2.2.2.2.2.1 r7.2.2.2.2.2.2.1 r7.2.2.2.2.2.2.2.1 r7.2.2.2.2.2.2.2.2.1 r7.2.2.2.2.2.2.2.2.2.1 r7.2.2.2.2.2.2.2.2.2.2.1 r7.2.2.2.2.2.2.2.2.2.2.2 r8.1 r8.2.1 r8.2.2.1 r8.2.2.2.1 r8.2.2.2.2.1 r8.2.2.2.2.2.1 r8.2.2.2.2.2.2.1 r8.2.2.2.2.2.2.2.1 r8.2.2.2.2.2.2.2.2.1 r8.2.2.2.2.2.2.2.2.2.1 r8.2.2.2.2.2.2.2.2.2.2.1 r8.2.2.2.2.2.2.2.2.2.2.2)).trans (by rw [← hb9, ← hw9])) ?_
  refine wpR_val (v := (Sl.v (⟨some ⟨b9, 0, none⟩, 8, 8⟩ : Sl))) (w' := w9) rfl rfl rfl (x_assign (v := (Sl.v (⟨some ⟨b9, 0, none⟩, 8, 8⟩ : Sl))) rfl rfl) ?_
  refine wpR_nil ?_
  refine wpC_ret ?_
  exact ⟨.inl rfl, fun a ha => ⟨_, results_rep1 rfl ha rfl, (⟨some ⟨b9, 0, none⟩, 8, 8⟩ : Sl), rfl, h⟩⟩

/-- lingualaw18.net -/
def F20 (p0 : Int) (p1 : Int) (w0 : World) (K : (ByteArray × Int × Int × Int × Bool × Int × Bool × Bool × Int × Int × Int × Int × Sl × Int × Int × Int × Int × Bool × Int × Int × Int × Int) → World → Prop) : Prop :=
  nw 33 #[(Value.string (ByteArray.mk #[])), (Value.int .i64 0), (Value.int .i64 0), (Value.int .i64 0), (Value.bool false), (Value.int .i64 0), (Value.bool false), (Value.bool false), (Value.int .i64 0), (Value.int .i64 0), (Value.int .i64 0), (Value.int .i64 0), (Sl.v Sl.nil), (Value.int .i64 0), (Value.int .i64 0), (Value.int .i64 0), (Value.int .i64 0), (Value.bool false), (Value.int .i64 0), (Value.int .i64 0), (Value.int .i64 0), (Value.int .i64 0)] w0 fun b1 w1 =>
  st (Addr.mk b1 0 none) [(Value.string (ByteArray.mk #[])), (Value.int .i64 0), (Value.int .i64 0), (Value.int .i64 0), (Value.bool false), (Value.int .i64 0), (Value.bool false), (Value.bool false), (Value.int .i64 0), (Value.int .i64 0), (Value.int .i64 0), (Value.int .i64 0), (Sl.v Sl.nil), (Value.int .i64 0), (Value.int .i64 p0), (Value.int .i64 p1), (Value.int .i64 0), (Value.bool false), (Value.int .i64 0), (Value.int .i64 0), (Value.int .i64 0), (Value.int .i64 0)] w1 fun w2 =>
  ld Value.string ((Addr.mk b1 0 none).add 0) w2 fun x3 =>
  ld (Value.int .i64) ((Addr.mk b1 0 none).add 1) w2 fun x4 =>
  ld (Value.int .i64) ((Addr.mk b1 0 none).add 2) w2 fun x5 =>
  ld (Value.int .i64) ((Addr.mk b1 0 none).add 3) w2 fun x6 =>
  ld Value.bool ((Addr.mk b1 0 none).add 4) w2 fun x7 =>
  ld (Value.int .i64) ((Addr.mk b1 0 none).add 5) w2 fun x8 =>
  ld Value.bool ((Addr.mk b1 0 none).add 6) w2 fun x9 =>
  ld Value.bool ((Addr.mk b1 0 none).add 7) w2 fun x10 =>
  ld (Value.int .i64) ((Addr.mk b1 0 none).add 8) w2 fun x11 =>
  ld (Value.int .i64) ((Addr.mk b1 0 none).add 9) w2 fun x12 =>
  ld (Value.int .i64) ((Addr.mk b1 0 none).add 10) w2 fun x13 =>
  ld (Value.int .i64) ((Addr.mk b1 0 none).add 11) w2 fun x14 =>
  ld Sl.v ((Addr.mk b1 0 none).add 12) w2 fun x15 =>
  ld (Value.int .i64) ((Addr.mk b1 0 none).add 13) w2 fun x16 =>
  ld (Value.int .i64) ((Addr.mk b1 0 none).add 14) w2 fun x17 =>
  ld (Value.int .i64) ((Addr.mk b1 0 none).add 15) w2 fun x18 =>
  ld (Value.int .i64) ((Addr.mk b1 0 none).add 16) w2 fun x19 =>
  ld Value.bool ((Addr.mk b1 0 none).add 17) w2 fun x20 =>
  ld (Value.int .i64) ((Addr.mk b1 0 none).add 18) w2 fun x21 =>
  ld (Value.int .i64) ((Addr.mk b1 0 none).add 19) w2 fun x22 =>
  ld (Value.int .i64) ((Addr.mk b1 0 none).add 20) w2 fun x23 =>
  ld (Value.int .i64) ((Addr.mk b1 0 none).add 21) w2 fun x24 =>
  K (x3, x4, x5, x6, x7, x8, x9, x10, x11, x12, x13, x14, x15, x16, x17, x18, x19, x20, x21, x22, x23, x24) w2
set_option maxRecDepth 100000 in
theorem D20 (p0 : Int) (p1 : Int) (w0 : World) (K : (ByteArray × Int × Int × Int × Bool × Int × Bool × Bool × Int × Int × Int × Int × Sl × Int × Int × Int × Int × Bool × Int × Int × Int × Int) → World → Prop) (h : F20 p0 p1 w0 K) : callC Try.prog 20 #[(Value.int .i64 p0), (Value.int .i64 p1)] (fun (r : ByteArray × Int × Int × Int × Bool × Int × Bool × Bool × Int × Int × Int × Int × Sl × Int × Int × Int × Int × Bool × Int × Int × Int × Int) => (Value.agg #[(Value.string r.1), (Value.int .i64 r.2.1), (Value.int .i64 r.2.2.1), (Value.int .i64 r.2.2.2.1), (Value.bool r.2.2.2.2.1), (Value.int .i64 r.2.2.2.2.2.1), (Value.bool r.2.2.2.2.2.2.1), (Value.bool r.2.2.2.2.2.2.2.1), (Value.int .i64 r.2.2.2.2.2.2.2.2.1), (Value.int .i64 r.2.2.2.2.2.2.2.2.2.1), (Value.int .i64 r.2.2.2.2.2.2.2.2.2.2.1), (Value.int .i64 r.2.2.2.2.2.2.2.2.2.2.2.1), (Sl.v r.2.2.2.2.2.2.2.2.2.2.2.2.1), (Value.int .i64 r.2.2.2.2.2.2.2.2.2.2.2.2.2.1), (Value.int .i64 r.2.2.2.2.2.2.2.2.2.2.2.2.2.2.1), (Value.int .i64 r.2.2.2.2.2.2.2.2.2.2.2.2.2.2.2.1), (Value.int .i64 r.2.2.2.2.2.2.2.2.2.2.2.2.2.2.2.2.1), (Value.bool r.2.2.2.2.2.2.2.2.2.2.2.2.2.2.2.2.2.1), (Value.int .i64 r.2.2.2.2.2.2.2.2.2.2.2.2.2.2.2.2.2.2.1), (Value.int .i64 r.2.2.2.2.2.2.2.2.2.2.2.2.2.2.2.2.2.2.2.1), (Value.int .i64 r.2.2.2.2.2.2.2.2.2.2.2.2.2.2.2.2.2.2.2.2.1), (Value.int .i64 r.2.2.2.2.2.2.2.2.2.2.2.2.2.2.2.2.2.2.2.2.2)])) w0 K := by
  unfold F20 at h
  refine calls_of_wpC Try.func20 rfl 8 rfl (by simp) ?_
  intro ρ hρ
  have e0 : ρ 0 = (Value.int .i64 p0) := hρ 0
  have e1 : ρ 1 = (Value.int .i64 p1) := hρ 1
  clear hρ
  refine wpC_seq ?_
  refine wpC_region ?_
  obtain ⟨b1, hb1⟩ : ∃ u, u = w0.heap.size := ⟨_, rfl⟩
  obtain ⟨w1, hw1⟩ : ∃ u, u = w0.alloc (.cells #[(Value.string (ByteArray.mk #[])), (Value.int .i64 0), (Value.int .i64 0), (Value.int .i64 0), (Value.bool false), (Value.int .i64 0), (Value.bool false), (Value.bool false), (Value.int .i64 0), (Value.int .i64 0), (Value.int .i64 0), (Value.int .i64 0), (Sl.v Sl.nil), (Value.int .i64 0), (Value.int .i64 0), (Value.int .i64 0), (Value.int .i64 0), (Value.bool false), (Value.int .i64 0), (Value.int .i64 0), (Value.int .i64 0), (Value.int .i64 0)] 33) := ⟨_, rfl⟩
  replace h := h b1 w1 hb1 hw1
  refine wpR_val (v := (Value.pointer (some (Addr.mk b1 0 none)))) (w' := w1) rfl rfl rfl ((x_alloc rfl ZV_33).trans (by rw [hb1, hw1]; rfl)) ?_
  refine wpR_nil ?_
  refine wpC_seq ?_
  refine wpC_cut (fun ρ => ρ 0 = (Value.int .i64 p0) ∧ ρ 1 = (Value.int .i64 p1) ∧ ρ 4 = (Value.pointer (some (Addr.mk b1 0 none))) ∧ True) ⟨e0, e1, rfl, trivial⟩ ?_
  rintro ρ ⟨e0, e1, e4, -⟩
  refine wpC_region ?_
  refine wpR_val (v := (Value.int .i64 p0)) (w' := w1) rfl rfl rfl (x_move (v := (Value.int .i64 p0)) rfl e0) ?_
  refine wpR_val (v := (Value.int .i64 p1)) (w' := w1) rfl rfl rfl (x_move (v := (Value.int .i64 p1)) rfl e1) ?_
  refine wpR_val (v := (Value.agg #[(Value.string (ByteArray.mk #[])), (Value.int .i64 0), (Value.int .i64 0), (Value.int .i64 0), (Value.bool false), (Value.int .i64 0), (Value.bool false), (Value.bool false), (Value.int .i64 0), (Value.int .i64 0), (Value.int .i64 0), (Value.int .i64 0), (Sl.v Sl.nil), (Value.int .i64 0), (Value.int .i64 p0), (Value.int .i64 p1), (Value.int .i64 0), (Value.bool false), (Value.int .i64 0), (Value.int .i64 0), (Value.int .i64 0), (Value.int .i64 0)])) (w' := w1) rfl rfl rfl (x_build (qs := [(14, (Value.int .i64 p0)), (15, (Value.int .i64 p1))]) rfl (by rfl) (BD_33_14_15 p0 p1 _)) ?_
  obtain ⟨q2, h⟩ := h
  obtain ⟨w2, hw2⟩ : ∃ u, u = setAll w1 (Addr.mk b1 0 none) [(Value.string (ByteArray.mk #[])), (Value.int .i64 0), (Value.int .i64 0), (Value.int .i64 0), (Value.bool false), (Value.int .i64 0), (Value.bool false), (Value.bool false), (Value.int .i64 0), (Value.int .i64 0), (Value.int .i64 0), (Value.int .i64 0), (Sl.v Sl.nil), (Value.int .i64 0), (Value.int .i64 p0), (Value.int .i64 p1), (Value.int .i64 0), (Value.bool false), (Value.int .i64 0), (Value.int .i64 0), (Value.int .i64 0), (Value.int .i64 0)] 0 := ⟨_, rfl⟩
  replace h := h w2 hw2
  refine wpR_skp (w' := w2) rfl rfl ((x_store (v := (Value.agg #[(Value.string (ByteArray.mk #[])), (Value.int .i64 0), (Value.int .i64 0), (Value.int .i64 0), (Value.bool false), (Value.int .i64 0), (Value.bool false), (Value.bool false), (Value.int .i64 0), (Value.int .i64 0), (Value.int .i64 0), (Value.int .i64 0), (Sl.v Sl.nil), (Value.int .i64 0), (Value.int .i64 p0), (Value.int .i64 p1), (Value.int .i64 0), (Value.bool false), (Value.int .i64 0), (Value.int .i64 0), (Value.int .i64 0), (Value.int .i64 0)])) rfl e4 rfl SZ_33 (ones (by rfl)) q2).trans (by rw [hw2]; rfl)) ?_
  refine wpR_nil ?_
  refine wpC_ret ?_
  obtain ⟨x3, q3, h⟩ := h
  obtain ⟨x4, q4, h⟩ := h
  obtain ⟨x5, q5, h⟩ := h
  obtain ⟨x6, q6, h⟩ := h
  obtain ⟨x7, q7, h⟩ := h
  obtain ⟨x8, q8, h⟩ := h
  obtain ⟨x9, q9, h⟩ := h
  obtain ⟨x10, q10, h⟩ := h
  obtain ⟨x11, q11, h⟩ := h
  obtain ⟨x12, q12, h⟩ := h
  obtain ⟨x13, q13, h⟩ := h
  obtain ⟨x14, q14, h⟩ := h
  obtain ⟨x15, q15, h⟩ := h
  obtain ⟨x16, q16, h⟩ := h
  obtain ⟨x17, q17, h⟩ := h
  obtain ⟨x18, q18, h⟩ := h
  obtain ⟨x19, q19, h⟩ := h
  obtain ⟨x20, q20, h⟩ := h
  obtain ⟨x21, q21, h⟩ := h
  obtain ⟨x22, q22, h⟩ := h
  obtain ⟨x23, q23, h⟩ := h
  obtain ⟨x24, q24, h⟩ := h
  exact ⟨.inl rfl, fun a ha => ⟨_, results_repC [(Value.string x3), (Value.int .i64 x4), (Value.int .i64 x5), (Value.int .i64 x6), (Value.bool x7), (Value.int .i64 x8), (Value.bool x9), (Value.bool x10), (Value.int .i64 x11), (Value.int .i64 x12), (Value.int .i64 x13), (Value.int .i64 x14), (Sl.v x15), (Value.int .i64 x16), (Value.int .i64 x17), (Value.int .i64 x18), (Value.int .i64 x19), (Value.bool x20), (Value.int .i64 x21), (Value.int .i64 x22), (Value.int .i64 x23), (Value.int .i64 x24)] rfl ha e4 SH_33 (CellsAt.out (CellsAt.cons q3 (CellsAt.cons q4 (CellsAt.cons q5 (CellsAt.cons q6 (CellsAt.cons q7 (CellsAt.cons q8 (CellsAt.cons q9 (CellsAt.cons q10 (CellsAt.cons q11 (CellsAt.cons q12 (CellsAt.cons q13 (CellsAt.cons q14 (CellsAt.cons q15 (CellsAt.cons q16 (CellsAt.cons q17 (CellsAt.cons q18 (CellsAt.cons q19 (CellsAt.cons q20 (CellsAt.cons q21 (CellsAt.cons q22 (CellsAt.cons q23 (CellsAt.cons q24 CellsAt.nil))))))))))))))))))))))), (x3, x4, x5, x6, x7, x8, x9, x10, x11, x12, x13, x14, x15, x16, x17, x18, x19, x20, x21, x22, x23, x24), rfl, h⟩⟩

/-- linguaref14.FewAll -/
def F21 (p0 : Sl) (p1 : Int) (w0 : World) (K : Bool → World → Prop) : Prop :=
  lp (fun (next1 : Int → World → Prop) l1 w1 =>
    cnd ((decide (l1 < (p0.len : Int))) && (decide (l1 ≤ p1)))
      (
      ix p0 l1 12 fun p5 =>
      ld (Value.int .i64) (p5.add 0) w1 fun x6 =>
      ld (Value.int .i64) (p5.add 1) w1 fun x7 =>
      ld Sl.v (p5.add 2) w1 fun x8 =>
      ld (Value.int .i64) (p5.add 3) w1 fun x9 =>
      ld (Value.int .i64) (p5.add 4) w1 fun x10 =>
      ld (Value.int .i64) (p5.add 5) w1 fun x11 =>
      ld (Value.int .i64) (p5.add 6) w1 fun x12 =>
      ld (Value.int .i64) (p5.add 7) w1 fun x13 =>
      ld (Value.int .i64) (p5.add 8) w1 fun x14 =>
      ld Value.string (p5.add 9) w1 fun x15 =>
      ld Sl.v (p5.add 10) w1 fun x16 =>
      ld (Value.int .i64) (p5.add 11) w1 fun x17 =>
      callC Try.prog 30 #[(Value.agg #[(Value.int .i64 x6), (Value.int .i64 x7), (Sl.v x8), (Value.int .i64 x9), (Value.int .i64 x10), (Value.int .i64 x11), (Value.int .i64 x12), (Value.int .i64 x13), (Value.int .i64 x14), (Value.string x15), (Sl.v x16), (Value.int .i64 x17)])] (fun (r : Bool) => (Value.bool r)) w1 fun r18 w2 =>
      cnd (!r18)
        (
        K false w2
        )
        (
        next1 (IntKind.i64.wrap (l1 + 1)) w2
        )
      )
      (
      K (decide ((p0.len : Int) ≤ p1)) w1
      )
  ) 0 w0
set_option maxRecDepth 100000 in
theorem D21 (p0 : Sl) (p1 : Int) (w0 : World) (K : Bool → World → Prop) (h : F21 p0 p1 w0 K) : callC Try.prog 21 #[(Sl.v p0), (Value.int .i64 p1)] (fun (r : Bool) => (Value.bool r)) w0 K := by
  unfold F21 at h
  refine calls_of_wpC Try.func21 rfl 27 rfl (by simp) ?_
  intro ρ hρ
  have e0 : ρ 0 = (Sl.v p0) := hρ 0
  have e1 : ρ 1 = (Value.int .i64 p1) := hρ 1
  clear hρ
  refine wpC_seq ?_
  refine wpC_region ?_
  refine wpR_val (v := (Value.bool false)) (w' := w0) rfl rfl rfl (x_assign (v := (Value.bool false)) rfl rfl) ?_
  refine wpR_nil ?_
  refine wpC_seq ?_
  refine wpC_seq ?_
  refine wpC_cut (fun ρ => ρ 0 = (Sl.v p0) ∧ ρ 1 = (Value.int .i64 p1) ∧ True) ⟨e0, e1, trivial⟩ ?_
  rintro ρ ⟨e0, e1, -⟩
  refine wpC_region ?_
  refine wpR_val (v := (Value.int .i64 0)) (w' := w0) rfl rfl rfl (x_assign (v := (Value.int .i64 0)) rfl rfl) ?_
  refine wpR_nil ?_
  refine wpC_block ?_
  obtain ⟨I1, μ1, hI1, hr1⟩ := h
  refine wpC_loop (fun (x : Int) ρ => ρ 5 = (Value.int .i64 x) ∧ ρ 0 = (Sl.v p0) ∧ ρ 1 = (Value.int .i64 p1) ∧ True) I1 μ1 0 ⟨rfl, e0, e1, trivial⟩ hI1 ?_
  rintro l1 ρ w1 ⟨e5, e0, e1, -⟩ h
  replace h := hr1 l1 w1 h
  clear hr1 hI1
  refine wpC_seq ?_
  refine wpC_seq ?_
  refine wpC_region ?_
  refine wpR_val (v := (Value.int .i64 l1)) (w' := w1) rfl rfl rfl (x_move (v := (Value.int .i64 l1)) rfl e5) ?_
  refine wpR_val (v := (Sl.v p0)) (w' := w1) rfl rfl rfl (x_move (v := (Sl.v p0)) rfl e0) ?_
  refine wpR_val (v := (Value.int .i64 (p0.len : Int))) (w' := w1) rfl rfl rfl (x_lenS (s := p0) rfl rfl isSliceT_23) ?_
  refine wpR_val (v := (Value.bool (decide (l1 < (p0.len : Int))))) (w' := w1) rfl rfl rfl (x_lss rfl rfl rfl) ?_
  refine wpR_val (v := (Value.bool (decide (l1 < (p0.len : Int))))) (w' := w1) rfl rfl rfl (x_move (v := (Value.bool (decide (l1 < (p0.len : Int))))) rfl rfl) ?_
  refine wpR_joinJ 4 (fun (_ : Unit) ρ => ρ 14 = Value.bool ((decide (l1 < (p0.len : Int))) && (decide (l1 ≤ p1))) ∧ ρ 0 = (Sl.v p0) ∧ ρ 1 = (Value.int .i64 p1) ∧ ρ 5 = (Value.int .i64 l1) ∧ True) (fun _ w => w1 = w) ?_ ?_
  · clear h
    rcases Bool.eq_false_or_eq_true (decide (l1 < (p0.len : Int))) with hc3 | hc3
    · skip
      refine wpR_val (v := (Value.int .i64 l1)) (w' := w1) (wantG rfl rfl rfl hc3) rfl rfl (x_move (v := (Value.int .i64 l1)) rfl e5) ?_
      refine wpR_val (v := (Value.int .i64 p1)) (w' := w1) (wantG rfl rfl rfl hc3) rfl rfl (x_move (v := (Value.int .i64 p1)) rfl e1) ?_
      refine wpR_val (v := (Value.bool (decide (l1 ≤ p1)))) (w' := w1) (wantG rfl rfl rfl hc3) rfl rfl (x_leq rfl rfl rfl) ?_
      refine wpR_val (v := (Value.bool (decide (l1 ≤ p1)))) (w' := w1) rfl rfl rfl (x_pickT (v := (Value.bool (decide (l1 ≤ p1)))) rfl rfl hc3 rfl) ?_
      refine wpR_nil ?_
      exact ⟨(), ⟨(by rw [hc3]; rfl), e0, e1, e5, trivial⟩, rfl⟩
    · skip
      refine wpR_pass (wantN rfl rfl rfl hc3) rfl rfl ?_
      refine wpR_pass (wantN rfl rfl rfl hc3) rfl rfl ?_
      refine wpR_pass (wantN rfl rfl rfl hc3) rfl rfl ?_
      refine wpR_val (v := (Value.bool false)) (w' := w1) rfl rfl rfl (x_pickF (v := (Value.bool false)) rfl rfl hc3 rfl) ?_
      refine wpR_nil ?_
      exact ⟨(), ⟨(by rw [hc3]; rfl), e0, e1, e5, trivial⟩, rfl⟩
  rintro _ ρ wj ⟨e14, e0, e1, e5, -⟩ rfl
  refine wpR_nil ?_
  refine wpC_cond (b := (decide (l1 < (p0.len : Int))) && (decide (l1 ≤ p1))) e14 (fun hc4 => ?_) (fun hc4 => ?_)
  · replace h := h.1 hc4
    refine wpC_skip ?_
    refine wpC_seq ?_
    refine wpC_block ?_
    refine wpC_seq ?_
    refine wpC_region ?_
    refine wpR_val (v := (Sl.v p0)) (w' := w1) rfl rfl rfl (x_move (v := (Sl.v p0)) rfl e0) ?_
    refine wpR_val (v := (Value.int .i64 l1)) (w' := w1) rfl rfl rfl (x_move (v := (Value.int .i64 l1)) rfl e5) ?_
    obtain ⟨q5, z5, r5, h⟩ := h
    generalize hp5 : z5.add ((l1 : Int).toNat * 12) = p5 at h
    refine wpR_val (v := (Value.pointer (some p5))) (w' := w1) rfl rfl rfl ((x_indexAddr (s := p0) rfl rfl rfl ES_23 q5 r5).trans (by rw [hp5])) ?_
    obtain ⟨x6, q6, h⟩ := h
    obtain ⟨x7, q7, h⟩ := h
    obtain ⟨x8, q8, h⟩ := h
    obtain ⟨x9, q9, h⟩ := h
    obtain ⟨x10, q10, h⟩ := h
    obtain ⟨x11, q11, h⟩ := h
    obtain ⟨x12, q12, h⟩ := h
    obtain ⟨x13, q13, h⟩ := h
    obtain ⟨x14, q14, h⟩ := h
    obtain ⟨x15, q15, h⟩ := h
    obtain ⟨x16, q16, h⟩ := h
    obtain ⟨x17, q17, h⟩ := h
    refine wpR_val (v := (Value.agg #[(Value.int .i64 x6), (Value.int .i64 x7), (Sl.v x8), (Value.int .i64 x9), (Value.int .i64 x10), (Value.int .i64 x11), (Value.int .i64 x12), (Value.int .i64 x13), (Value.int .i64 x14), (Value.string x15), (Sl.v x16), (Value.int .i64 x17)])) (w' := w1) rfl rfl rfl (x_loadN [(Value.int .i64 x6), (Value.int .i64 x7), (Sl.v x8), (Value.int .i64 x9), (Value.int .i64 x10), (Value.int .i64 x11), (Value.int .i64 x12), (Value.int .i64 x13), (Value.int .i64 x14), (Value.string x15), (Sl.v x16), (Value.int .i64 x17)] rfl rfl SH_41 (CellsAt.out (CellsAt.cons q6 (CellsAt.cons q7 (CellsAt.cons q8 (CellsAt.cons q9 (CellsAt.cons q10 (CellsAt.cons q11 (CellsAt.cons q12 (CellsAt.cons q13 (CellsAt.cons q14 (CellsAt.cons q15 (CellsAt.cons q16 (CellsAt.cons q17 CellsAt.nil)))))))))))))) ?_
    refine wpR_enter rfl rfl rfl (x_call (vs := [(Value.agg #[(Value.int .i64 x6), (Value.int .i64 x7), (Sl.v x8), (Value.int .i64 x9), (Value.int .i64 x10), (Value.int .i64 x11), (Value.int .i64 x12), (Value.int .i64 x13), (Value.int .i64 x14), (Value.string x15), (Sl.v x16), (Value.int .i64 x17)])]) rfl rfl (mapl_cons rfl mapl_nil) Try.func30 NN_30 NB_30) (Calls.mono h ?_)
    rintro _ w2 ⟨r18, rfl, h⟩
    refine ⟨_, rfl, ?_⟩
    refine wpR_val (v := (Value.bool (!r18))) (w' := w2) rfl rfl rfl (x_not rfl rfl) ?_
    refine wpR_nil ?_
    refine wpC_cond (b := !r18) rfl (fun hc19 => ?_) (fun hc19 => ?_)
    · replace h := h.1 hc19
      refine wpC_seq ?_
      refine wpC_cut (fun ρ => True) trivial ?_
      rintro ρ -
      refine wpC_region ?_
      refine wpR_val (v := (Value.bool false)) (w' := w2) rfl rfl rfl (x_assign (v := (Value.bool false)) rfl rfl) ?_
      refine wpR_nil ?_
      refine wpC_ret ?_
      exact ⟨.inl rfl, fun a ha => ⟨_, results_rep1 rfl ha rfl, false, rfl, h⟩⟩
    · replace h := h.2 hc19
      refine wpC_skip ?_
      refine wpC_cut (fun ρ => ρ 0 = (Sl.v p0) ∧ ρ 1 = (Value.int .i64 p1) ∧ ρ 5 = (Value.int .i64 l1) ∧ True) ⟨e0, e1, e5, trivial⟩ ?_
      rintro ρ ⟨e0, e1, e5, -⟩
      refine wpC_region ?_
      refine wpR_val (v := (Value.int .i64 l1)) (w' := w2) rfl rfl rfl (x_move (v := (Value.int .i64 l1)) rfl e5) ?_
      refine wpR_val (v := (Value.int .i64 (IntKind.i64.wrap (l1 + 1)))) (w' := w2) rfl rfl rfl (x_add rfl rfl rfl) ?_
      refine wpR_val (v := (Value.int .i64 (IntKind.i64.wrap (l1 + 1)))) (w' := w2) rfl rfl rfl (x_assign (v := (Value.int .i64 (IntKind.i64.wrap (l1 + 1)))) rfl rfl) ?_
      refine wpR_nil ?_
      exact ⟨IntKind.i64.wrap (l1 + 1), ⟨rfl, e0, e1, trivial⟩, h⟩
  · replace h := h.2 hc4
    refine wpC_exit ?_
    refine wpC_seq ?_
    refine wpC_region ?_
    refine wpR_val (v := (Sl.v p0)) (w' := w1) rfl rfl rfl (x_move (v := (Sl.v p0)) rfl e0) ?_
    refine wpR_val (v := (Value.int .i64 (p0.len : Int))) (w' := w1) rfl rfl rfl (x_lenS (s := p0) rfl rfl isSliceT_23) ?_
    refine wpR_val (v := (Value.int .i64 p1)) (w' := w1) rfl rfl rfl (x_move (v := (Value.int .i64 p1)) rfl e1) ?_
    refine wpR_val (v := (Value.bool (decide ((p0.len : Int) ≤ p1)))) (w' := w1) rfl rfl rfl (x_leq rfl rfl rfl) ?_
    refine wpR_val (v := (Value.bool (decide ((p0.len : Int) ≤ p1)))) (w' := w1) rfl rfl rfl (x_assign (v := (Value.bool (decide ((p0.len : Int) ≤ p1)))) rfl rfl) ?_
    refine wpR_nil ?_
    refine wpC_ret ?_
    exact ⟨.inl rfl, fun a ha => ⟨_, results_rep1 rfl ha rfl, decide ((p0.len : Int) ≤ p1), rfl, h⟩⟩

/-- sight.sees -/
def F22 (p0 : Sl) (p1 : Sl) (p2 : Sl) (p3 : Int) (p4 : Int) (w0 : World) (K : Bool → World → Prop) : Prop :=
  nw 22 #[(Sl.v p0)] w0 fun b1 w1 =>
  nw 23 #[(Sl.v p1)] w1 fun b2 w2 =>
  nw 3 #[(Value.int .i64 p3)] w2 fun b3 w3 =>
  nw 3 #[(Value.int .i64 p4)] w3 fun b4 w4 =>
  jn (fun (J6 : Bool → World → Prop) => tk w4 fun w5 =>
    ld Sl.v (Addr.mk b2 0 none) w5 fun x7 =>
    ld (Value.int .i64) (Addr.mk b4 0 none) w5 fun x8 =>
    ix x7 x8 12 fun p9 =>
    ld (Value.int .i64) (p9.add 0) w5 fun x10 =>
    ld (Value.int .i64) (Addr.mk b3 0 none) w5 fun x11 =>
    J6 (decide (x10 = x11)) w5
  )
  fun l12 w6 =>
  cnd (l12)
    (
    K true w6
    )
    (
    callC Try.prog 31 #[(Sl.v p2), (Value.func (.func 32) #[] (List.toArray [(Value.pointer (some (Addr.mk b2 0 none))), (Value.pointer (some (Addr.mk b4 0 none))), (Value.pointer (some (Addr.mk b3 0 none))), (Value.pointer (some (Addr.mk b1 0 none)))]))] (fun (r : Bool) => (Value.bool r)) w6 fun r14 w7 =>
    K r14 w7
    )
set_option maxRecDepth 100000 in
theorem D22 (p0 : Sl) (p1 : Sl) (p2 : Sl) (p3 : Int) (p4 : Int) (w0 : World) (K : Bool → World → Prop) (h : F22 p0 p1 p2 p3 p4 w0 K) : callC Try.prog 22 #[(Sl.v p0), (Sl.v p1), (Sl.v p2), (Value.int .i64 p3), (Value.int .i64 p4)] (fun (r : Bool) => (Value.bool r)) w0 K := by
  unfold F22 at h
  refine calls_of_wpC Try.func22 rfl 21 rfl (by simp) ?_
  intro ρ hρ
  have e0 : ρ 0 = (Sl.v p0) := hρ 0
  have e1 : ρ 1 = (Sl.v p1) := hρ 1
  have e2 : ρ 2 = (Sl.v p2) := hρ 2
  have e3 : ρ 3 = (Value.int .i64 p3) := hρ 3
  have e4 : ρ 4 = (Value.int .i64 p4) := hρ 4
  clear hρ
  refine wpC_seq ?_
  refine wpC_region ?_
  obtain ⟨b1, hb1⟩ : ∃ u, u = w0.heap.size := ⟨_, rfl⟩
  obtain ⟨w1, hw1⟩ : ∃ u, u = w0.alloc (.cells #[(Sl.v p0)] 22) := ⟨_, rfl⟩
  replace h := h b1 w1 hb1 hw1
  refine wpR_val (v := (Value.pointer (some (Addr.mk b1 0 none)))) (w' := w1) rfl rfl rfl ((x_box (v := (Sl.v p0)) rfl e0).trans (by rw [hb1, hw1]; rfl)) ?_
  obtain ⟨b2, hb2⟩ : ∃ u, u = w1.heap.size := ⟨_, rfl⟩
  obtain ⟨w2, hw2⟩ : ∃ u, u = w1.alloc (.cells #[(Sl.v p1)] 23) := ⟨_, rfl⟩
  replace h := h b2 w2 hb2 hw2
  refine wpR_val (v := (Value.pointer (some (Addr.mk b2 0 none)))) (w' := w2) rfl rfl rfl ((x_box (v := (Sl.v p1)) rfl e1).trans (by rw [hb2, hw2]; rfl)) ?_
  obtain ⟨b3, hb3⟩ : ∃ u, u = w2.heap.size := ⟨_, rfl⟩
  obtain ⟨w3, hw3⟩ : ∃ u, u = w2.alloc (.cells #[(Value.int .i64 p3)] 3) := ⟨_, rfl⟩
  replace h := h b3 w3 hb3 hw3
  refine wpR_val (v := (Value.pointer (some (Addr.mk b3 0 none)))) (w' := w3) rfl rfl rfl ((x_box (v := (Value.int .i64 p3)) rfl e3).trans (by rw [hb3, hw3]; rfl)) ?_
  obtain ⟨b4, hb4⟩ : ∃ u, u = w3.heap.size := ⟨_, rfl⟩
  obtain ⟨w4, hw4⟩ : ∃ u, u = w3.alloc (.cells #[(Value.int .i64 p4)] 3) := ⟨_, rfl⟩
  replace h := h b4 w4 hb4 hw4
  refine wpR_val (v := (Value.pointer (some (Addr.mk b4 0 none)))) (w' := w4) rfl rfl rfl ((x_box (v := (Value.int .i64 p4)) rfl e4).trans (by rw [hb4, hw4]; rfl)) ?_
  refine wpR_val (v := (Value.bool false)) (w' := w4) rfl rfl rfl (x_assign (v := (Value.bool false)) rfl rfl) ?_
  refine wpR_nil ?_
  refine wpC_seq ?_
  refine wpC_seq ?_
  refine wpC_cut (fun ρ => ρ 2 = (Sl.v p2) ∧ ρ 5 = (Value.pointer (some (Addr.mk b1 0 none))) ∧ ρ 6 = (Value.pointer (some (Addr.mk b2 0 none))) ∧ ρ 8 = (Value.pointer (some (Addr.mk b3 0 none))) ∧ ρ 9 = (Value.pointer (some (Addr.mk b4 0 none))) ∧ True) ⟨e2, rfl, rfl, rfl, rfl, trivial⟩ ?_
  rintro ρ ⟨e2, e5, e6, e8, e9, -⟩
  obtain ⟨J6, h, hk⟩ := h
  refine wpC_drawJ (by kernel_rfl) (fun (x : Bool) ρ => ρ 17 = (Value.bool x) ∧ ρ 2 = (Sl.v p2) ∧ ρ 5 = (Value.pointer (some (Addr.mk b1 0 none))) ∧ ρ 6 = (Value.pointer (some (Addr.mk b2 0 none))) ∧ ρ 8 = (Value.pointer (some (Addr.mk b3 0 none))) ∧ ρ 9 = (Value.pointer (some (Addr.mk b4 0 none))) ∧ True) J6 ?_ ?_
  · clear hk
    unfold tk at h
    generalize w4.drew = w5 at h ⊢
    obtain ⟨x7, q7, h⟩ := h
    refine wpD_take (v := (Sl.v x7)) 0 (fun w => w.cell? (Addr.mk b2 0 none) = some (Sl.v x7)) rfl (by kernel_rfl) (by kernel_rfl) (by kernel_rfl) rfl rfl rfl q7 (fun w q7 => (x_load1 rfl e6 SH_23 q7)) ?_
    obtain ⟨x8, q8, h⟩ := h
    refine wpD_take (v := (Value.int .i64 x8)) 1 (fun w => w.cell? (Addr.mk b4 0 none) = some (Value.int .i64 x8)) rfl (by kernel_rfl) (by kernel_rfl) (by kernel_rfl) rfl rfl rfl q8 (fun w q8 => (x_load1 rfl e9 SH_3 q8)) ?_
    obtain ⟨q9, z9, r9, h⟩ := h
    generalize hp9 : z9.add ((x8 : Int).toNat * 12) = p9 at h
    refine wpD_take (v := (Value.pointer (some p9))) 2 (fun _ => True) rfl (by kernel_rfl) (by kernel_rfl) (by kernel_rfl) rfl rfl rfl trivial (fun w _ => ((x_indexAddr (s := x7) rfl rfl rfl ES_23 q9 r9).trans (by rw [hp9]))) ?_
    refine wpD_take (v := (Value.pointer (some (p9.add 0)))) 3 (fun _ => True) rfl (by kernel_rfl) (by kernel_rfl) (by kernel_rfl) rfl rfl rfl trivial (fun w _ => (x_fieldAddr rfl rfl FA_41_0)) ?_
    obtain ⟨x10, q10, h⟩ := h
    refine wpD_take (v := (Value.int .i64 x10)) 4 (fun w => w.cell? (p9.add 0) = some (Value.int .i64 x10)) rfl (by kernel_rfl) (by kernel_rfl) (by kernel_rfl) rfl rfl rfl q10 (fun w q10 => (x_load1 rfl rfl SH_3 q10)) ?_
    obtain ⟨x11, q11, h⟩ := h
    refine wpD_take (v := (Value.int .i64 x11)) 5 (fun w => w.cell? (Addr.mk b3 0 none) = some (Value.int .i64 x11)) rfl (by kernel_rfl) (by kernel_rfl) (by kernel_rfl) rfl rfl rfl q11 (fun w q11 => (x_load1 rfl e8 SH_3 q11)) ?_
    refine wpD_take (v := (Value.bool (decide (x10 = x11)))) 6 (fun _ => True) rfl (by kernel_rfl) (by kernel_rfl) (by kernel_rfl) rfl rfl rfl trivial (fun w _ => (x_eql rfl rfl rfl)) ?_
    exact wpD_done (by kernel_rfl) ⟨decide (x10 = x11), ⟨rfl, e2, e5, e6, e8, e9, trivial⟩, h⟩
  clear h
  rintro l12 ρ w6 ⟨e17, e2, e5, e6, e8, e9, -⟩ h
  replace h := hk l12 w6 h
  clear hk
  refine wpC_cond (b := l12) e17 (fun hc13 => ?_) (fun hc13 => ?_)
  · replace h := h.1 hc13
    refine wpC_seq ?_
    refine wpC_region ?_
    refine wpR_val (v := (Value.bool true)) (w' := w6) rfl rfl rfl (x_assign (v := (Value.bool true)) rfl rfl) ?_
    refine wpR_nil ?_
    refine wpC_ret ?_
    exact ⟨.inl rfl, fun a ha => ⟨_, results_rep1 rfl ha rfl, true, rfl, h⟩⟩
  · replace h := h.2 hc13
    refine wpC_skip ?_
    refine wpC_seq ?_
    refine wpC_region ?_
    refine wpR_val (v := (Sl.v p2)) (w' := w6) rfl rfl rfl (x_move (v := (Sl.v p2)) rfl e2) ?_
    refine wpR_val (v := (Value.func (.func 32) #[] (List.toArray [(Value.pointer (some (Addr.mk b2 0 none))), (Value.pointer (some (Addr.mk b4 0 none))), (Value.pointer (some (Addr.mk b3 0 none))), (Value.pointer (some (Addr.mk b1 0 none)))]))) (w' := w6) rfl rfl rfl (x_makeFunc (vs := [(Value.pointer (some (Addr.mk b2 0 none))), (Value.pointer (some (Addr.mk b4 0 none))), (Value.pointer (some (Addr.mk b3 0 none))), (Value.pointer (some (Addr.mk b1 0 none)))]) rfl (mapl_cons e6 (mapl_cons e9 (mapl_cons e8 (mapl_cons e5 mapl_nil))))) ?_
    refine wpR_enter rfl rfl rfl (x_call (vs := [(Sl.v p2), (Value.func (.func 32) #[] (List.toArray [(Value.pointer (some (Addr.mk b2 0 none))), (Value.pointer (some (Addr.mk b4 0 none))), (Value.pointer (some (Addr.mk b3 0 none))), (Value.pointer (some (Addr.mk b1 0 none)))]))]) rfl rfl (mapl_cons rfl (mapl_cons rfl mapl_nil)) Try.func31 NN_31 NB_31) (Calls.mono h ?_)
    rintro _ w7 ⟨r14, rfl, h⟩
    refine ⟨_, rfl, ?_⟩
    refine wpR_val (v := (Value.bool r14)) (w' := w7) rfl rfl rfl (x_assign (v := (Value.bool r14)) rfl rfl) ?_
    refine wpR_nil ?_
    refine wpC_ret ?_
    exact ⟨.inl rfl, fun a ha => ⟨_, results_rep1 rfl ha rfl, r14, rfl, h⟩⟩

/-- linguaref14.Net -/
def F23 (p0 : Int) (w0 : World) (K : Int → World → Prop) : Prop :=
  cnd ((decide (p0 < 0)) || (decide (1999 < p0)))
    (
    K (-1) w0
    )
    (
    K (p0.tmod 12) w0
    )
set_option maxRecDepth 100000 in
theorem D23 (p0 : Int) (w0 : World) (K : Int → World → Prop) (h : F23 p0 w0 K) : callC Try.prog 23 #[(Value.int .i64 p0)] (fun (r : Int) => (Value.int .i64 r)) w0 K := by
  unfold F23 at h
  refine calls_of_wpC Try.func23 rfl 11 rfl (by simp) ?_
  intro ρ hρ
  have e0 : ρ 0 = (Value.int .i64 p0) := hρ 0
  clear hρ
  refine wpC_seq ?_
  refine wpC_region ?_
  refine wpR_val (v := (Value.int .i64 0)) (w' := w0) rfl rfl rfl (x_assign (v := (Value.int .i64 0)) rfl rfl) ?_
  refine wpR_nil ?_
  refine wpC_seq ?_
  refine wpC_seq ?_
  refine wpC_cut (fun ρ => ρ 0 = (Value.int .i64 p0) ∧ True) ⟨e0, trivial⟩ ?_
  rintro ρ ⟨e0, -⟩
  refine wpC_region ?_
  refine wpR_val (v := (Value.int .i64 p0)) (w' := w0) rfl rfl rfl (x_move (v := (Value.int .i64 p0)) rfl e0) ?_
  refine wpR_val (v := (Value.bool (decide (p0 < 0)))) (w' := w0) rfl rfl rfl (x_lss rfl rfl rfl) ?_
  refine wpR_val (v := (Value.bool (decide (p0 < 0)))) (w' := w0) rfl rfl rfl (x_move (v := (Value.bool (decide (p0 < 0)))) rfl rfl) ?_
  refine wpR_joinJ 3 (fun (_ : Unit) ρ => ρ 8 = Value.bool ((decide (p0 < 0)) || (decide (1999 < p0))) ∧ ρ 0 = (Value.int .i64 p0) ∧ True) (fun _ w => w0 = w) ?_ ?_
  · clear h
    rcases Bool.eq_false_or_eq_true (decide (p0 < 0)) with hc2 | hc2
    · skip
      refine wpR_pass (wantN rfl rfl rfl hc2) rfl rfl ?_
      refine wpR_pass (wantN rfl rfl rfl hc2) rfl rfl ?_
      refine wpR_val (v := (Value.bool true)) (w' := w0) rfl rfl rfl (x_pickT (v := (Value.bool true)) rfl rfl hc2 rfl) ?_
      refine wpR_nil ?_
      exact ⟨(), ⟨(by rw [hc2]; rfl), e0, trivial⟩, rfl⟩
    · skip
      refine wpR_val (v := (Value.int .i64 p0)) (w' := w0) (wantG rfl rfl rfl hc2) rfl rfl (x_move (v := (Value.int .i64 p0)) rfl e0) ?_
      refine wpR_val (v := (Value.bool (decide (1999 < p0)))) (w' := w0) (wantG rfl rfl rfl hc2) rfl rfl (x_gtr rfl rfl rfl) ?_
      refine wpR_val (v := (Value.bool (decide (1999 < p0)))) (w' := w0) rfl rfl rfl (x_pickF (v := (Value.bool (decide (1999 < p0)))) rfl rfl hc2 rfl) ?_
      refine wpR_nil ?_
      exact ⟨(), ⟨(by rw [hc2]; rfl), e0, trivial⟩, rfl⟩
  rintro _ ρ wj ⟨e8, e0, -⟩ rfl
  refine wpR_nil ?_
  refine wpC_cond (b := (decide (p0 < 0)) || (decide (1999 < p0))) e8 (fun hc3 => ?_) (fun hc3 => ?_)
  · replace h := h.1 hc3
    refine wpC_seq ?_
    refine wpC_region ?_
    refine wpR_val (v := (Value.int .i64 (-1))) (w' := w0) rfl rfl rfl (x_assign (v := (Value.int .i64 (-1))) rfl rfl) ?_
    refine wpR_nil ?_
    refine wpC_ret ?_
    exact ⟨.inl rfl, fun a ha => ⟨_, results_rep1 rfl ha rfl, (-1), rfl, h⟩⟩
  · replace h := h.2 hc3
    refine wpC_skip ?_
    refine wpC_seq ?_
    refine wpC_region ?_
    refine wpR_val (v := (Value.int .i64 p0)) (w' := w0) rfl rfl rfl (x_move (v := (Value.int .i64 p0)) rfl e0) ?_
    refine wpR_val (v := (Value.int .i64 (p0.tmod 12))) (w' := w0) rfl rfl rfl (x_rem rfl rfl rfl (by decide)) ?_
    refine wpR_val (v := (Value.int .i64 (p0.tmod 12))) (w' := w0) rfl rfl rfl (x_assign (v := (Value.int .i64 (p0.tmod 12))) rfl rfl) ?_
    refine wpR_nil ?_
    refine wpC_ret ?_
    exact ⟨.inl rfl, fun a ha => ⟨_, results_rep1 rfl ha rfl, p0.tmod 12, rfl, h⟩⟩

/-- linguaref17.Stays -/
def F24 (p0 : Sl) (w0 : World) (K : Sl → World → Prop) : Prop :=
  lp (fun (next1 : (Sl × Int) → World → Prop) l1 w1 =>
    cnd (decide (l1.2 < (p0.len : Int)))
      (
      jn (fun (J3 : Sl → World → Prop) =>
        ix p0 l1.2 12 fun p5 =>
        ld (Value.int .i64) (p5.add 0) w1 fun x6 =>
        ld (Value.int .i64) (p5.add 1) w1 fun x7 =>
        ld Sl.v (p5.add 2) w1 fun x8 =>
        ld (Value.int .i64) (p5.add 3) w1 fun x9 =>
        ld (Value.int .i64) (p5.add 4) w1 fun x10 =>
        ld (Value.int .i64) (p5.add 5) w1 fun x11 =>
        ld (Value.int .i64) (p5.add 6) w1 fun x12 =>
        ld (Value.int .i64) (p5.add 7) w1 fun x13 =>
        ld (Value.int .i64) (p5.add 8) w1 fun x14 =>
        ld Value.string (p5.add 9) w1 fun x15 =>
        ld Sl.v (p5.add 10) w1 fun x16 =>
        ld (Value.int .i64) (p5.add 11) w1 fun x17 =>
        nw 41 #[(Value.int .i64 0), (Value.int .i64 0), (Sl.v Sl.nil), (Value.int .i64 0), (Value.int .i64 0), (Value.int .i64 0), (Value.int .i64 0), (Value.int .i64 0), (Value.int .i64 0), (Value.string (ByteArray.mk #[])), (Sl.v Sl.nil), (Value.int .i64 0)] w1 fun b18 w3 =>
        st (Addr.mk b18 0 none) [(Value.int .i64 x6), (Value.int .i64 x7), (Sl.v x8), (Value.int .i64 x9), (Value.int .i64 x10), (Value.int .i64 x11), (Value.int .i64 x12), (Value.int .i64 x13), (Value.int .i64 x14), (Value.string x15), (Sl.v x16), (Value.int .i64 x17)] w3 fun w4 =>
        jn (fun (J21 : Bool → World → Prop) => tk w4 fun w5 =>
          ld (Value.int .i64) ((Addr.mk b18 0 none).add 3) w5 fun x22 =>
          cnd (!decide (x22 = 5))
            (
            J21 true w5
            )
            (
            ld (Value.int .i64) ((Addr.mk b18 0 none).add 7) w5 fun x24 =>
            ld (Value.int .i64) ((Addr.mk b18 0 none).add 4) w5 fun x25 =>
            rn Try.prog (Instr.sliceAt 23 (Sl.v p0) none (some (Value.int .i64 l1.2)) none) (fun (r : Sl) => (Sl.v r)) w5 fun r26 w6 =>
            (w6.cell? ((Addr.mk b18 0 none).add 4) = some (Value.int .i64 x25)) ∧
            (w6.cell? ((Addr.mk b18 0 none).add 7) = some (Value.int .i64 x24)) ∧
            (w6.cell? ((Addr.mk b18 0 none).add 3) = some (Value.int .i64 x22)) ∧
            callC Try.prog 36 #[(Sl.v r26), (Value.int .i64 x24), (Value.int .i64 x25)] (fun (r : Bool) => (Value.bool r)) w6 fun r27 w7 =>
            (w7.cell? ((Addr.mk b18 0 none).add 3) = some (Value.int .i64 x22)) ∧
            J21 r27 w7
            )
        )
        fun l28 w8 =>
        cnd (l28)
          (
          J3 l1.1 w8
          )
          (
          ld (Value.int .i64) ((Addr.mk b18 0 none).add 7) w8 fun x30 =>
          ld (Value.int .i64) ((Addr.mk b18 0 none).add 4) w8 fun x31 =>
          nw 43 #[(Value.int .i64 0), (Value.int .i64 0), (Value.int .i64 0), (Value.int .i64 0)] w8 fun b32 w9 =>
          st (Addr.mk b32 0 none) [(Value.int .i64 x30), (Value.int .i64 x31), (Value.int .i64 l1.2), (Value.int .i64 (-1))] w9 fun w10 =>
          lp (fun (next34 : Int → World → Prop) l34 w11 =>
            jp (fun J35 => cnd (decide (l34 < (p0.len : Int)))
              (
              ld (Value.int .i64) ((Addr.mk b32 0 none).add 3) w11 fun x37 =>
              J35 (decide (x37 < 0))
              )
              (
              J35 false
              ))
            fun c38 =>
            cnd (c38)
              (
              jn (fun (J40 : Unit → World → Prop) =>
                ix p0 l34 12 fun p42 =>
                ld (Value.int .i64) (p42.add 0) w11 fun x43 =>
                ld (Value.int .i64) (p42.add 1) w11 fun x44 =>
                ld Sl.v (p42.add 2) w11 fun x45 =>
                ld (Value.int .i64) (p42.add 3) w11 fun x46 =>
                ld (Value.int .i64) (p42.add 4) w11 fun x47 =>
                ld (Value.int .i64) (p42.add 5) w11 fun x48 =>
                ld (Value.int .i64) (p42.add 6) w11 fun x49 =>
                ld (Value.int .i64) (p42.add 7) w11 fun x50 =>
                ld (Value.int .i64) (p42.add 8) w11 fun x51 =>
                ld Value.string (p42.add 9) w11 fun x52 =>
                ld Sl.v (p42.add 10) w11 fun x53 =>
                ld (Value.int .i64) (p42.add 11) w11 fun x54 =>
                callC Try.prog 37 #[(Value.agg #[(Value.int .i64 x43), (Value.int .i64 x44), (Sl.v x45), (Value.int .i64 x46), (Value.int .i64 x47), (Value.int .i64 x48), (Value.int .i64 x49), (Value.int .i64 x50), (Value.int .i64 x51), (Value.string x52), (Sl.v x53), (Value.int .i64 x54)])] (fun (r : Int × Bool) => (Value.tuple #[(Value.int .i64 r.1), (Value.bool r.2)])) w11 fun r55 w13 =>
                jn (fun (J57 : Bool → World → Prop) => tk w13 fun w14 =>
                  cnd (r55.2)
                    (
                    ld (Value.int .i64) ((Addr.mk b18 0 none).add 7) w14 fun x59 =>
                    cnd (decide (r55.1 = x59))
                      (
                      ix p0 l34 12 fun p61 =>
                      ld (Value.int .i64) (p61.add 4) w14 fun x62 =>
                      ld (Value.int .i64) ((Addr.mk b18 0 none).add 4) w14 fun x63 =>
                      J57 (decide (x62 = x63)) w14
                      )
                      (
                      J57 false w14
                      )
                    )
                    (
                    J57 false w14
                    )
                )
                fun l64 w15 =>
                cnd (l64)
                  (
                  st ((Addr.mk b32 0 none).add 3) [(Value.int .i64 l34)] w15 fun w16 =>
                  J40 () w16
                  )
                  (
                  J40 () w15
                  )
              )
              fun _l41 w12 =>
              next34 (IntKind.i64.wrap (l34 + 1)) w12
              )
              (
              ld (Value.int .i64) ((Addr.mk b32 0 none).add 0) w11 fun x67 =>
              ld (Value.int .i64) ((Addr.mk b32 0 none).add 1) w11 fun x68 =>
              ld (Value.int .i64) ((Addr.mk b32 0 none).add 2) w11 fun x69 =>
              ld (Value.int .i64) ((Addr.mk b32 0 none).add 3) w11 fun x70 =>
              nw 43 #[(Value.int .i64 x67), (Value.int .i64 x68), (Value.int .i64 x69), (Value.int .i64 x70)] w11 fun b71 w17 =>
              rn Try.prog (Builtin.append_ #[37, 37] 37 #[Sl.v l1.1, Sl.v (⟨some ⟨b71, 0, none⟩, 1, 1⟩ : Sl)]) Sl.v w17 fun r72 w18 =>
              J3 r72 w18
              )
          ) (IntKind.i64.wrap (l1.2 + 1)) w10
          )
      )
      fun l4 w2 =>
      next1 (l4, IntKind.i64.wrap (l1.2 + 1)) w2
      )
      (
      K l1.1 w1
      )
  ) (Sl.nil, 0) w0
set_option maxRecDepth 100000 in
theorem D24 (p0 : Sl) (w0 : World) (K : Sl → World → Prop) (h : F24 p0 w0 K) : callC Try.prog 24 #[(Sl.v p0)] (fun (r : Sl) => (Sl.v r)) w0 K := by
  unfold F24 at h
  refine calls_of_wpC Try.func24 rfl 84 rfl (by simp) ?_
  intro ρ hρ
  have e0 : ρ 0 = (Sl.v p0) := hρ 0
  clear hρ
  refine wpC_seq ?_
  refine wpC_region ?_
  refine wpR_val (v := (Sl.v Sl.nil)) (w' := w0) rfl rfl rfl (x_assign (v := (Sl.v Sl.nil)) rfl rfl) ?_
  refine wpR_nil ?_
  refine wpC_seq ?_
  refine wpC_cut (fun ρ => ρ 0 = (Sl.v p0) ∧ True) ⟨e0, trivial⟩ ?_
  rintro ρ ⟨e0, -⟩
  refine wpC_region ?_
  refine wpR_val (v := (Sl.v Sl.nil)) (w' := w0) rfl rfl rfl (x_assign (v := (Sl.v Sl.nil)) rfl rfl) ?_
  refine wpR_nil ?_
  refine wpC_seq ?_
  refine wpC_seq ?_
  refine wpC_cut (fun ρ => ρ 0 = (Sl.v p0) ∧ ρ 3 = (Sl.v Sl.nil) ∧ True) ⟨e0, rfl, trivial⟩ ?_
  rintro ρ ⟨e0, e3, -⟩
  refine wpC_region ?_
  refine wpR_val (v := (Value.int .i64 0)) (w' := w0) rfl rfl rfl (x_assign (v := (Value.int .i64 0)) rfl rfl) ?_
  refine wpR_nil ?_
  refine wpC_block ?_
  obtain ⟨I1, μ1, hI1, hr1⟩ := h
  refine wpC_loop (fun (x : Sl × Int) ρ => ρ 3 = (Sl.v x.1) ∧ ρ 4 = (Value.int .i64 x.2) ∧ ρ 0 = (Sl.v p0) ∧ True) I1 μ1 (Sl.nil, 0) ⟨e3, rfl, e0, trivial⟩ hI1 ?_
  rintro l1 ρ w1 ⟨e3, e4, e0, -⟩ h
  replace h := hr1 l1 w1 h
  clear hr1 hI1
  refine wpC_seq ?_
  refine wpC_seq ?_
  refine wpC_region ?_
  refine wpR_val (v := (Value.int .i64 l1.2)) (w' := w1) rfl rfl rfl (x_move (v := (Value.int .i64 l1.2)) rfl e4) ?_
  refine wpR_val (v := (Sl.v p0)) (w' := w1) rfl rfl rfl (x_move (v := (Sl.v p0)) rfl e0) ?_
  refine wpR_val (v := (Value.int .i64 (p0.len : Int))) (w' := w1) rfl rfl rfl (x_lenS (s := p0) rfl rfl isSliceT_23) ?_
  refine wpR_val (v := (Value.bool (decide (l1.2 < (p0.len : Int))))) (w' := w1) rfl rfl rfl (x_lss rfl rfl rfl) ?_
  refine wpR_nil ?_
  refine wpC_cond (b := decide (l1.2 < (p0.len : Int))) rfl (fun hc2 => ?_) (fun hc2 => ?_)
  · replace h := h.1 hc2
    refine wpC_skip ?_
    obtain ⟨J3, h, hk⟩ := h
    refine wpC_seqJ (fun (x : Sl) ρ => ρ 3 = (Sl.v x) ∧ ρ 0 = (Sl.v p0) ∧ ρ 4 = (Value.int .i64 l1.2) ∧ True) J3 ?_ ?_
    · clear hk
      refine wpC_block ?_
      refine wpC_seq ?_
      refine wpC_cut (fun ρ => ρ 0 = (Sl.v p0) ∧ ρ 3 = (Sl.v l1.1) ∧ ρ 4 = (Value.int .i64 l1.2) ∧ True) ⟨e0, e3, e4, trivial⟩ ?_
      rintro ρ ⟨e0, e3, e4, -⟩
      refine wpC_region ?_
      refine wpR_val (v := (Sl.v p0)) (w' := w1) rfl rfl rfl (x_move (v := (Sl.v p0)) rfl e0) ?_
      refine wpR_val (v := (Value.int .i64 l1.2)) (w' := w1) rfl rfl rfl (x_move (v := (Value.int .i64 l1.2)) rfl e4) ?_
      obtain ⟨q5, z5, r5, h⟩ := h
      generalize hp5 : z5.add ((l1.2 : Int).toNat * 12) = p5 at h
      refine wpR_val (v := (Value.pointer (some p5))) (w' := w1) rfl rfl rfl ((x_indexAddr (s := p0) rfl rfl rfl ES_23 q5 r5).trans (by rw [hp5])) ?_
      obtain ⟨x6, q6, h⟩ := h
      obtain ⟨x7, q7, h⟩ := h
      obtain ⟨x8, q8, h⟩ := h
      obtain ⟨x9, q9, h⟩ := h
      obtain ⟨x10, q10, h⟩ := h
      obtain ⟨x11, q11, h⟩ := h
      obtain ⟨x12, q12, h⟩ := h
      obtain ⟨x13, q13, h⟩ := h
      obtain ⟨x14, q14, h⟩ := h
      obtain ⟨x15, q15, h⟩ := h
      obtain ⟨x16, q16, h⟩ := h
      obtain ⟨x17, q17, h⟩ := h
      refine wpR_val (v := (Value.agg #[(Value.int .i64 x6), (Value.int .i64 x7), (Sl.v x8), (Value.int .i64 x9), (Value.int .i64 x10), (Value.int .i64 x11), (Value.int .i64 x12), (Value.int .i64 x13), (Value.int .i64 x14), (Value.string x15), (Sl.v x16), (Value.int .i64 x17)])) (w' := w1) rfl rfl rfl (x_loadN [(Value.int .i64 x6), (Value.int .i64 x7), (Sl.v x8), (Value.int .i64 x9), (Value.int .i64 x10), (Value.int .i64 x11), (Value.int .i64 x12), (Value.int .i64 x13), (Value.int .i64 x14), (Value.string x15), (Sl.v x16), (Value.int .i64 x17)] rfl rfl SH_41 (CellsAt.out (CellsAt.cons q6 (CellsAt.cons q7 (CellsAt.cons q8 (CellsAt.cons q9 (CellsAt.cons q10 (CellsAt.cons q11 (CellsAt.cons q12 (CellsAt.cons q13 (CellsAt.cons q14 (CellsAt.cons q15 (CellsAt.cons q16 (CellsAt.cons q17 CellsAt.nil)))))))))))))) ?_
      obtain ⟨b18, hb18⟩ : ∃ u, u = w1.heap.size := ⟨_, rfl⟩
      obtain ⟨w3, hw18⟩ : ∃ u, u = w1.alloc (.cells #[(Value.int .i64 0), (Value.int .i64 0), (Sl.v Sl.nil), (Value.int .i64 0), (Value.int .i64 0), (Value.int .i64 0), (Value.int .i64 0), (Value.int .i64 0), (Value.int .i64 0), (Value.string (ByteArray.mk #[])), (Sl.v Sl.nil), (Value.int .i64 0)] 41) := ⟨_, rfl⟩
      replace h := h b18 w3 hb18 hw18
      refine wpR_val (v := (Value.pointer (some (Addr.mk b18 0 none)))) (w' := w3) rfl rfl rfl ((x_alloc rfl ZV_41).trans (by rw [hb18, hw18]; rfl)) ?_
      obtain ⟨q19, h⟩ := h
      obtain ⟨w4, hw19⟩ : ∃ u, u = setAll w3 (Addr.mk b18 0 none) [(Value.int .i64 x6), (Value.int .i64 x7), (Sl.v x8), (Value.int .i64 x9), (Value.int .i64 x10), (Value.int .i64 x11), (Value.int .i64 x12), (Value.int .i64 x13), (Value.int .i64 x14), (Value.string x15), (Sl.v x16), (Value.int .i64 x17)] 0 := ⟨_, rfl⟩
      replace h := h w4 hw19
      refine wpR_skp (w' := w4) rfl rfl ((x_store (v := (Value.agg #[(Value.int .i64 x6), (Value.int .i64 x7), (Sl.v x8), (Value.int .i64 x9), (Value.int .i64 x10), (Value.int .i64 x11), (Value.int .i64 x12), (Value.int .i64 x13), (Value.int .i64 x14), (Value.string x15), (Sl.v x16), (Value.int .i64 x17)])) rfl rfl rfl SZ_41 (ones (by rfl)) q19).trans (by rw [hw19]; rfl)) ?_
      refine wpR_nil ?_
      refine wpC_seq ?_
      refine wpC_seq ?_
      refine wpC_cut (fun ρ => ρ 0 = (Sl.v p0) ∧ ρ 3 = (Sl.v l1.1) ∧ ρ 4 = (Value.int .i64 l1.2) ∧ ρ 5 = (Value.pointer (some (Addr.mk b18 0 none))) ∧ True) ⟨e0, e3, e4, rfl, trivial⟩ ?_
      rintro ρ ⟨e0, e3, e4, e5, -⟩
      obtain ⟨J21, h, hk⟩ := h
      refine wpC_drawJ (by kernel_rfl) (fun (x : Bool) ρ => ρ 32 = (Value.bool x) ∧ ρ 0 = (Sl.v p0) ∧ ρ 3 = (Sl.v l1.1) ∧ ρ 4 = (Value.int .i64 l1.2) ∧ ρ 5 = (Value.pointer (some (Addr.mk b18 0 none))) ∧ True) J21 ?_ ?_
      · clear hk
        unfold tk at h
        generalize w4.drew = w5 at h ⊢
        refine wpD_take (v := (Value.pointer (some ((Addr.mk b18 0 none).add 3)))) 0 (fun _ => True) rfl (by kernel_rfl) (by kernel_rfl) (by kernel_rfl) rfl rfl rfl trivial (fun w _ => (x_fieldAddr rfl e5 FA_41_3)) ?_
        obtain ⟨x22, q22, h⟩ := h
        refine wpD_take (v := (Value.int .i64 x22)) 1 (fun w => w.cell? ((Addr.mk b18 0 none).add 3) = some (Value.int .i64 x22)) rfl (by kernel_rfl) (by kernel_rfl) (by kernel_rfl) rfl rfl rfl q22 (fun w q22 => (x_load1 rfl rfl SH_3 q22)) ?_
        refine wpD_take (v := (Value.bool (!decide (x22 = 5)))) 2 (fun _ => True) rfl (by kernel_rfl) (by kernel_rfl) (by kernel_rfl) rfl rfl rfl trivial (fun w _ => (x_neq rfl rfl rfl)) ?_
        refine wpD_take (v := (Value.bool (!decide (x22 = 5)))) 3 (fun _ => True) rfl (by kernel_rfl) (by kernel_rfl) (by kernel_rfl) rfl rfl rfl trivial (fun w _ => (x_move (v := (Value.bool (!decide (x22 = 5)))) rfl rfl)) ?_
        rcases Bool.eq_false_or_eq_true (!decide (x22 = 5)) with hc23 | hc23
        · replace h := h.1 hc23
          refine wpD_pass 4 rfl (by kernel_rfl) (by kernel_rfl) (by kernel_rfl) (wantN rfl rfl rfl hc23) rfl rfl ?_
          refine wpD_pass 5 rfl (by kernel_rfl) (by kernel_rfl) (by kernel_rfl) (wantN rfl rfl rfl hc23) rfl rfl ?_
          refine wpD_pass 6 rfl (by kernel_rfl) (by kernel_rfl) (by kernel_rfl) (wantN rfl rfl rfl hc23) rfl rfl ?_
          refine wpD_pass 7 rfl (by kernel_rfl) (by kernel_rfl) (by kernel_rfl) (wantN rfl rfl rfl hc23) rfl rfl ?_
          refine wpD_pass 8 rfl (by kernel_rfl) (by kernel_rfl) (by kernel_rfl) (wantN rfl rfl rfl hc23) rfl rfl ?_
          refine wpD_pass 9 rfl (by kernel_rfl) (by kernel_rfl) (by kernel_rfl) (wantN rfl rfl rfl hc23) rfl rfl ?_
          refine wpD_pass 10 rfl (by kernel_rfl) (by kernel_rfl) (by kernel_rfl) (wantN rfl rfl rfl hc23) rfl rfl ?_
          refine wpD_pass 11 rfl (by kernel_rfl) (by kernel_rfl) (by kernel_rfl) (wantN rfl rfl rfl hc23) rfl rfl ?_
          refine wpD_take (v := (Value.bool true)) 12 (fun _ => True) rfl (by kernel_rfl) (by kernel_rfl) (by kernel_rfl) rfl rfl rfl trivial (fun w _ => (x_pickT (v := (Value.bool true)) rfl rfl hc23 rfl)) ?_
          exact wpD_done (by kernel_rfl) ⟨true, ⟨rfl, e0, e3, e4, e5, trivial⟩, h⟩
        · replace h := h.2 hc23
          refine wpD_take (v := (Sl.v p0)) 4 (fun _ => True) rfl (by kernel_rfl) (by kernel_rfl) (by kernel_rfl) (wantG rfl rfl rfl hc23) rfl rfl trivial (fun w _ => (x_move (v := (Sl.v p0)) rfl e0)) ?_
          refine wpD_take (v := (Value.int .i64 l1.2)) 5 (fun _ => True) rfl (by kernel_rfl) (by kernel_rfl) (by kernel_rfl) (wantG rfl rfl rfl hc23) rfl rfl trivial (fun w _ => (x_move (v := (Value.int .i64 l1.2)) rfl e4)) ?_
          refine wpD_take (v := (Value.pointer (some ((Addr.mk b18 0 none).add 7)))) 7 (fun _ => True) rfl (by kernel_rfl) (by kernel_rfl) (by kernel_rfl) (wantG rfl rfl rfl hc23) rfl rfl trivial (fun w _ => (x_fieldAddr rfl e5 FA_41_7)) ?_
          obtain ⟨x24, q24, h⟩ := h
          refine wpD_take (v := (Value.int .i64 x24)) 8 (fun w => w.cell? ((Addr.mk b18 0 none).add 7) = some (Value.int .i64 x24)) rfl (by kernel_rfl) (by kernel_rfl) (by kernel_rfl) (wantG rfl rfl rfl hc23) rfl rfl q24 (fun w q24 => (x_load1 rfl rfl SH_3 q24)) ?_
          refine wpD_take (v := (Value.pointer (some ((Addr.mk b18 0 none).add 4)))) 9 (fun _ => True) rfl (by kernel_rfl) (by kernel_rfl) (by kernel_rfl) (wantG rfl rfl rfl hc23) rfl rfl trivial (fun w _ => (x_fieldAddr rfl e5 FA_41_4)) ?_
          obtain ⟨x25, q25, h⟩ := h
          refine wpD_take (v := (Value.int .i64 x25)) 10 (fun w => w.cell? ((Addr.mk b18 0 none).add 4) = some (Value.int .i64 x25)) rfl (by kernel_rfl) (by kernel_rfl) (by kernel_rfl) (wantG rfl rfl rfl hc23) rfl rfl q25 (fun w q25 => (x_load1 rfl rfl SH_3 q25)) ?_
          refine wpD_all (rs := [6]) (by kernel_rfl) (by simp) (allD_cons ?_ allD_nil)
          obtain ⟨r26, w6, q26, h⟩ := h
          obtain ⟨o10, h⟩ := h
          obtain ⟨o8, h⟩ := h
          obtain ⟨o1, h⟩ := h
          refine stepD_valL (L' := [(10, fun w => w.cell? ((Addr.mk b18 0 none).add 4) = some (Value.int .i64 x25)), (9, fun _ => True), (8, fun w => w.cell? ((Addr.mk b18 0 none).add 7) = some (Value.int .i64 x24)), (7, fun _ => True), (2, fun _ => True), (1, fun w => w.cell? ((Addr.mk b18 0 none).add 3) = some (Value.int .i64 x22)), (0, fun _ => True)]) (v := (Sl.v r26)) (w' := w6) rfl (wantG rfl rfl rfl hc23) rfl rfl (x_sliceAt rfl rfl rfl (congrArg some rfl) rfl q26) (by kernel_rfl) (held_cons o10 (held_cons trivial (held_cons o8 (held_cons trivial (held_cons trivial (held_cons o1 (held_cons trivial held_nil))))))) ?_
          refine wpD_all (rs := [11]) (by kernel_rfl) (by simp) (allD_cons ?_ allD_nil)
          refine stepD_enterL (L' := [(9, fun _ => True), (7, fun _ => True), (2, fun _ => True), (1, fun w => w.cell? ((Addr.mk b18 0 none).add 3) = some (Value.int .i64 x22)), (0, fun _ => True)]) rfl (wantG rfl rfl rfl hc23) rfl rfl (x_call (vs := [(Sl.v r26), (Value.int .i64 x24), (Value.int .i64 x25)]) rfl rfl (mapl_cons rfl (mapl_cons rfl (mapl_cons rfl mapl_nil))) Try.func36 NN_36 NB_36) (by kernel_rfl) (Calls.mono h ?_)
          rintro _ w7 ⟨r27, rfl, h⟩
          obtain ⟨o1, h⟩ := h
          refine ⟨_, rfl, (held_cons trivial (held_cons trivial (held_cons trivial (held_cons o1 (held_cons trivial held_nil))))), ?_⟩
          refine wpD_take (v := (Value.bool r27)) 12 (fun _ => True) rfl (by kernel_rfl) (by kernel_rfl) (by kernel_rfl) rfl rfl rfl trivial (fun w _ => (x_pickF (v := (Value.bool r27)) rfl rfl hc23 rfl)) ?_
          exact wpD_done (by kernel_rfl) ⟨r27, ⟨rfl, e0, e3, e4, e5, trivial⟩, h⟩
      clear h
      rintro l28 ρ w8 ⟨e32, e0, e3, e4, e5, -⟩ h
      replace h := hk l28 w8 h
      clear hk
      refine wpC_cond (b := l28) e32 (fun hc29 => ?_) (fun hc29 => ?_)
      · replace h := h.1 hc29
        refine wpC_exit ?_
        exact ⟨l1.1, ⟨e3, e0, e4, trivial⟩, h⟩
      · replace h := h.2 hc29
        refine wpC_skip ?_
        refine wpC_seq ?_
        refine wpC_region ?_
        refine wpR_val (v := (Value.pointer (some ((Addr.mk b18 0 none).add 7)))) (w' := w8) rfl rfl rfl (x_fieldAddr rfl e5 FA_41_7) ?_
        obtain ⟨x30, q30, h⟩ := h
        refine wpR_val (v := (Value.int .i64 x30)) (w' := w8) rfl rfl rfl (x_load1 rfl rfl SH_3 q30) ?_
        refine wpR_val (v := (Value.pointer (some ((Addr.mk b18 0 none).add 4)))) (w' := w8) rfl rfl rfl (x_fieldAddr rfl e5 FA_41_4) ?_
        obtain ⟨x31, q31, h⟩ := h
        refine wpR_val (v := (Value.int .i64 x31)) (w' := w8) rfl rfl rfl (x_load1 rfl rfl SH_3 q31) ?_
        refine wpR_val (v := (Value.int .i64 l1.2)) (w' := w8) rfl rfl rfl (x_move (v := (Value.int .i64 l1.2)) rfl e4) ?_
        refine wpR_val (v := (Value.agg #[(Value.int .i64 x30), (Value.int .i64 x31), (Value.int .i64 l1.2), (Value.int .i64 (-1))])) (w' := w8) rfl rfl rfl (x_build (qs := [(0, (Value.int .i64 x30)), (1, (Value.int .i64 x31)), (2, (Value.int .i64 l1.2)), (3, (Value.int .i64 (-1)))]) rfl (by rfl) (BD_43_0_1_2_3 x30 x31 l1.2 (-1) _)) ?_
        obtain ⟨b32, hb32⟩ : ∃ u, u = w8.heap.size := ⟨_, rfl⟩
        obtain ⟨w9, hw32⟩ : ∃ u, u = w8.alloc (.cells #[(Value.int .i64 0), (Value.int .i64 0), (Value.int .i64 0), (Value.int .i64 0)] 43) := ⟨_, rfl⟩
        replace h := h b32 w9 hb32 hw32
        refine wpR_val (v := (Value.pointer (some (Addr.mk b32 0 none)))) (w' := w9) rfl rfl rfl ((x_alloc rfl ZV_43).trans (by rw [hb32, hw32]; rfl)) ?_
        obtain ⟨q33, h⟩ := h
        obtain ⟨w10, hw33⟩ : ∃ u, u = setAll w9 (Addr.mk b32 0 none) [(Value.int .i64 x30), (Value.int .i64 x31), (Value.int .i64 l1.2), (Value.int .i64 (-1))] 0 := ⟨_, rfl⟩
        replace h := h w10 hw33
        refine wpR_skp (w' := w10) rfl rfl ((x_store (v := (Value.agg #[(Value.int .i64 x30), (Value.int .i64 x31), (Value.int .i64 l1.2), (Value.int .i64 (-1))])) rfl rfl rfl SZ_43 (ones (by rfl)) q33).trans (by rw [hw33]; rfl)) ?_
        refine wpR_nil ?_
        refine wpC_seq ?_
        refine wpC_seq ?_
        refine wpC_cut (fun ρ => ρ 0 = (Sl.v p0) ∧ ρ 3 = (Sl.v l1.1) ∧ ρ 4 = (Value.int .i64 l1.2) ∧ ρ 5 = (Value.pointer (some (Addr.mk b18 0 none))) ∧ ρ 6 = (Value.pointer (some (Addr.mk b32 0 none))) ∧ True) ⟨e0, e3, e4, e5, rfl, trivial⟩ ?_
        rintro ρ ⟨e0, e3, e4, e5, e6, -⟩
        refine wpC_region ?_
        refine wpR_val (v := (Value.int .i64 l1.2)) (w' := w10) rfl rfl rfl (x_move (v := (Value.int .i64 l1.2)) rfl e4) ?_
        refine wpR_val (v := (Value.int .i64 (IntKind.i64.wrap (l1.2 + 1)))) (w' := w10) rfl rfl rfl (x_add rfl rfl rfl) ?_
        refine wpR_val (v := (Value.int .i64 (IntKind.i64.wrap (l1.2 + 1)))) (w' := w10) rfl rfl rfl (x_assign (v := (Value.int .i64 (IntKind.i64.wrap (l1.2 + 1)))) rfl rfl) ?_
        refine wpR_nil ?_
        refine wpC_block ?_
        obtain ⟨I34, μ34, hI34, hr34⟩ := h
        refine wpC_loop (fun (x : Int) ρ => ρ 7 = (Value.int .i64 x) ∧ ρ 0 = (Sl.v p0) ∧ ρ 3 = (Sl.v l1.1) ∧ ρ 4 = (Value.int .i64 l1.2) ∧ ρ 5 = (Value.pointer (some (Addr.mk b18 0 none))) ∧ ρ 6 = (Value.pointer (some (Addr.mk b32 0 none))) ∧ True) I34 μ34 (IntKind.i64.wrap (l1.2 + 1)) ⟨rfl, e0, e3, e4, e5, e6, trivial⟩ hI34 ?_
        rintro l34 ρ w11 ⟨e7, e0, e3, e4, e5, e6, -⟩ h
        replace h := hr34 l34 w11 h
        clear hr34 hI34
        refine wpC_seq ?_
        refine wpC_seq ?_
        refine wpC_region ?_
        refine wpR_val (v := (Value.int .i64 l34)) (w' := w11) rfl rfl rfl (x_move (v := (Value.int .i64 l34)) rfl e7) ?_
        refine wpR_val (v := (Sl.v p0)) (w' := w11) rfl rfl rfl (x_move (v := (Sl.v p0)) rfl e0) ?_
        refine wpR_val (v := (Value.int .i64 (p0.len : Int))) (w' := w11) rfl rfl rfl (x_lenS (s := p0) rfl rfl isSliceT_23) ?_
        refine wpR_val (v := (Value.bool (decide (l34 < (p0.len : Int))))) (w' := w11) rfl rfl rfl (x_lss rfl rfl rfl) ?_
        refine wpR_val (v := (Value.bool (decide (l34 < (p0.len : Int))))) (w' := w11) rfl rfl rfl (x_move (v := (Value.bool (decide (l34 < (p0.len : Int))))) rfl rfl) ?_
        obtain ⟨J35, h, hk⟩ := h
        refine wpR_joinJ 4 (fun x ρ => ρ 49 = Value.bool x ∧ ρ 0 = (Sl.v p0) ∧ ρ 3 = (Sl.v l1.1) ∧ ρ 4 = (Value.int .i64 l1.2) ∧ ρ 5 = (Value.pointer (some (Addr.mk b18 0 none))) ∧ ρ 6 = (Value.pointer (some (Addr.mk b32 0 none))) ∧ ρ 7 = (Value.int .i64 l34) ∧ True) (fun x w => J35 x ∧ w11 = w) ?_ ?_
        · clear hk
          rcases Bool.eq_false_or_eq_true (decide (l34 < (p0.len : Int))) with hc36 | hc36
          · replace h := h.1 hc36
            refine wpR_val (v := (Value.pointer (some ((Addr.mk b32 0 none).add 3)))) (w' := w11) (wantG rfl rfl rfl hc36) rfl rfl (x_fieldAddr rfl e6 FA_43_3) ?_
            obtain ⟨x37, q37, h⟩ := h
            refine wpR_val (v := (Value.int .i64 x37)) (w' := w11) (wantG rfl rfl rfl hc36) rfl rfl (x_load1 rfl rfl SH_3 q37) ?_
            refine wpR_val (v := (Value.bool (decide (x37 < 0)))) (w' := w11) (wantG rfl rfl rfl hc36) rfl rfl (x_lss rfl rfl rfl) ?_
            refine wpR_val (v := (Value.bool (decide (x37 < 0)))) (w' := w11) rfl rfl rfl (x_pickT (v := (Value.bool (decide (x37 < 0)))) rfl rfl hc36 rfl) ?_
            refine wpR_nil ?_
            exact ⟨decide (x37 < 0), ⟨rfl, e0, e3, e4, e5, e6, e7, trivial⟩, h, rfl⟩
          · replace h := h.2 hc36
            refine wpR_pass (wantN rfl rfl rfl hc36) rfl rfl ?_
            refine wpR_pass (wantN rfl rfl rfl hc36) rfl rfl ?_
            refine wpR_pass (wantN rfl rfl rfl hc36) rfl rfl ?_
            refine wpR_val (v := (Value.bool false)) (w' := w11) rfl rfl rfl (x_pickF (v := (Value.bool false)) rfl rfl hc36 rfl) ?_
            refine wpR_nil ?_
            exact ⟨false, ⟨rfl, e0, e3, e4, e5, e6, e7, trivial⟩, h, rfl⟩
        clear h
        rintro c38 ρ wj ⟨e49, e0, e3, e4, e5, e6, e7, -⟩ ⟨h, rfl⟩
        replace h := hk c38 h
        clear hk
        refine wpR_nil ?_
        refine wpC_cond (b := c38) e49 (fun hc39 => ?_) (fun hc39 => ?_)
        · replace h := h.1 hc39
          refine wpC_skip ?_
          obtain ⟨J40, h, hk⟩ := h
          refine wpC_seqJ (fun (x : Unit) ρ => ρ 0 = (Sl.v p0) ∧ ρ 3 = (Sl.v l1.1) ∧ ρ 4 = (Value.int .i64 l1.2) ∧ ρ 5 = (Value.pointer (some (Addr.mk b18 0 none))) ∧ ρ 6 = (Value.pointer (some (Addr.mk b32 0 none))) ∧ ρ 7 = (Value.int .i64 l34) ∧ True) J40 ?_ ?_
          · clear hk
            refine wpC_block ?_
            refine wpC_seq ?_
            refine wpC_region ?_
            refine wpR_val (v := (Sl.v p0)) (w' := w11) rfl rfl rfl (x_move (v := (Sl.v p0)) rfl e0) ?_
            refine wpR_val (v := (Value.int .i64 l34)) (w' := w11) rfl rfl rfl (x_move (v := (Value.int .i64 l34)) rfl e7) ?_
            obtain ⟨q42, z42, r42, h⟩ := h
            generalize hp42 : z42.add ((l34 : Int).toNat * 12) = p42 at h
            refine wpR_val (v := (Value.pointer (some p42))) (w' := w11) rfl rfl rfl ((x_indexAddr (s := p0) rfl rfl rfl ES_23 q42 r42).trans (by rw [hp42])) ?_
            obtain ⟨x43, q43, h⟩ := h
            obtain ⟨x44, q44, h⟩ := h
            obtain ⟨x45, q45, h⟩ := h
            obtain ⟨x46, q46, h⟩ := h
            obtain ⟨x47, q47, h⟩ := h
            obtain ⟨x48, q48, h⟩ := h
            obtain ⟨x49, q49, h⟩ := h
            obtain ⟨x50, q50, h⟩ := h
            obtain ⟨x51, q51, h⟩ := h
            obtain ⟨x52, q52, h⟩ := h
            obtain ⟨x53, q53, h⟩ := h
            obtain ⟨x54, q54, h⟩ := h
            refine wpR_val (v := (Value.agg #[(Value.int .i64 x43), (Value.int .i64 x44), (Sl.v x45), (Value.int .i64 x46), (Value.int .i64 x47), (Value.int .i64 x48), (Value.int .i64 x49), (Value.int .i64 x50), (Value.int .i64 x51), (Value.string x52), (Sl.v x53), (Value.int .i64 x54)])) (w' := w11) rfl rfl rfl (x_loadN [(Value.int .i64 x43), (Value.int .i64 x44), (Sl.v x45), (Value.int .i64 x46), (Value.int .i64 x47), (Value.int .i64 x48), (Value.int .i64 x49), (Value.int .i64 x50), (Value.int .i64 x51), (Value.string x52), (Sl.v x53), (Value.int .i64 x54)] rfl rfl SH_41 (CellsAt.out (CellsAt.cons q43 (CellsAt.cons q44 (CellsAt.cons q45 (CellsAt.cons q46 (CellsAt.cons q47 (CellsAt.cons q48 (CellsAt.cons q49 (CellsAt.cons q50 (CellsAt.cons q51 (CellsAt.cons q52 (CellsAt.cons q53 (CellsAt.cons q54 CellsAt.nil)))))))))))))) ?_
            refine wpR_enter rfl rfl rfl (x_call (vs := [(Value.agg #[(Value.int .i64 x43), (Value.int .i64 x44), (Sl.v x45), (Value.int .i64 x46), (Value.int .i64 x47), (Value.int .i64 x48), (Value.int .i64 x49), (Value.int .i64 x50), (Value.int .i64 x51), (Value.string x52), (Sl.v x53), (Value.int .i64 x54)])]) rfl rfl (mapl_cons rfl mapl_nil) Try.func37 NN_37 NB_37) (Calls.mono h ?_)
            rintro _ w13 ⟨r55, rfl, h⟩
            refine ⟨_, rfl, ?_⟩
            refine wpR_val (v := (Value.tuple #[(Value.int .i64 r55.1), (Value.bool r55.2)])) (w' := w13) rfl rfl rfl (x_move (v := (Value.tuple #[(Value.int .i64 r55.1), (Value.bool r55.2)])) rfl rfl) ?_
            refine wpR_val (v := (Value.int .i64 r55.1)) (w' := w13) rfl rfl rfl (x_extract rfl rfl rfl) ?_
            refine wpR_val (v := (Value.bool r55.2)) (w' := w13) rfl rfl rfl (x_extract rfl rfl rfl) ?_
            refine wpR_val (v := (Value.int .i64 r55.1)) (w' := w13) rfl rfl rfl (x_assign (v := (Value.int .i64 r55.1)) rfl rfl) ?_
            refine wpR_val (v := (Value.bool r55.2)) (w' := w13) rfl rfl rfl (x_assign (v := (Value.bool r55.2)) rfl rfl) ?_
            refine wpR_nil ?_
            refine wpC_seq ?_
            refine wpC_cut (fun ρ => ρ 0 = (Sl.v p0) ∧ ρ 3 = (Sl.v l1.1) ∧ ρ 4 = (Value.int .i64 l1.2) ∧ ρ 5 = (Value.pointer (some (Addr.mk b18 0 none))) ∧ ρ 6 = (Value.pointer (some (Addr.mk b32 0 none))) ∧ ρ 7 = (Value.int .i64 l34) ∧ ρ 8 = (Value.int .i64 r55.1) ∧ ρ 9 = (Value.bool r55.2) ∧ True) ⟨e0, e3, e4, e5, e6, e7, rfl, rfl, trivial⟩ ?_
            rintro ρ ⟨e0, e3, e4, e5, e6, e7, e8, e9, -⟩
            obtain ⟨J57, h, hk⟩ := h
            refine wpC_drawJ (by kernel_rfl) (fun (x : Bool) ρ => ρ 76 = (Value.bool x) ∧ ρ 0 = (Sl.v p0) ∧ ρ 3 = (Sl.v l1.1) ∧ ρ 4 = (Value.int .i64 l1.2) ∧ ρ 5 = (Value.pointer (some (Addr.mk b18 0 none))) ∧ ρ 6 = (Value.pointer (some (Addr.mk b32 0 none))) ∧ ρ 7 = (Value.int .i64 l34) ∧ True) J57 ?_ ?_
            · clear hk
              unfold tk at h
              generalize w13.drew = w14 at h ⊢
              refine wpD_take (v := (Value.bool r55.2)) 0 (fun _ => True) rfl (by kernel_rfl) (by kernel_rfl) (by kernel_rfl) rfl rfl rfl trivial (fun w _ => (x_move (v := (Value.bool r55.2)) rfl e9)) ?_
              refine wpD_take (v := (Value.bool r55.2)) 1 (fun _ => True) rfl (by kernel_rfl) (by kernel_rfl) (by kernel_rfl) rfl rfl rfl trivial (fun w _ => (x_move (v := (Value.bool r55.2)) rfl rfl)) ?_
              rcases Bool.eq_false_or_eq_true (r55.2) with hc58 | hc58
              · replace h := h.1 hc58
                refine wpD_take (v := (Value.int .i64 r55.1)) 2 (fun _ => True) rfl (by kernel_rfl) (by kernel_rfl) (by kernel_rfl) (wantG rfl rfl rfl hc58) rfl rfl trivial (fun w _ => (x_move (v := (Value.int .i64 r55.1)) rfl e8)) ?_
                refine wpD_take (v := (Value.pointer (some ((Addr.mk b18 0 none).add 7)))) 3 (fun _ => True) rfl (by kernel_rfl) (by kernel_rfl) (by kernel_rfl) (wantG rfl rfl rfl hc58) rfl rfl trivial (fun w _ => (x_fieldAddr rfl e5 FA_41_7)) ?_
                obtain ⟨x59, q59, h⟩ := h
                refine wpD_take (v := (Value.int .i64 x59)) 4 (fun w => w.cell? ((Addr.mk b18 0 none).add 7) = some (Value.int .i64 x59)) rfl (by kernel_rfl) (by kernel_rfl) (by kernel_rfl) (wantG rfl rfl rfl hc58) rfl rfl q59 (fun w q59 => (x_load1 rfl rfl SH_3 q59)) ?_
                refine wpD_take (v := (Value.bool (decide (r55.1 = x59)))) 5 (fun _ => True) rfl (by kernel_rfl) (by kernel_rfl) (by kernel_rfl) (wantG rfl rfl rfl hc58) rfl rfl trivial (fun w _ => (x_eql rfl rfl rfl)) ?_
                refine wpD_take (v := (Value.bool (decide (r55.1 = x59)))) 6 (fun _ => True) rfl (by kernel_rfl) (by kernel_rfl) (by kernel_rfl) rfl rfl rfl trivial (fun w _ => (x_pickT (v := (Value.bool (decide (r55.1 = x59)))) rfl rfl hc58 rfl)) ?_
                refine wpD_take (v := (Value.bool (decide (r55.1 = x59)))) 7 (fun _ => True) rfl (by kernel_rfl) (by kernel_rfl) (by kernel_rfl) rfl rfl rfl trivial (fun w _ => (x_move (v := (Value.bool (decide (r55.1 = x59)))) rfl rfl)) ?_
                rcases Bool.eq_false_or_eq_true (decide (r55.1 = x59)) with hc60 | hc60
                · replace h := h.1 hc60
                  refine wpD_take (v := (Sl.v p0)) 8 (fun _ => True) rfl (by kernel_rfl) (by kernel_rfl) (by kernel_rfl) (wantG rfl rfl rfl hc60) rfl rfl trivial (fun w _ => (x_move (v := (Sl.v p0)) rfl e0)) ?_
                  refine wpD_take (v := (Value.int .i64 l34)) 9 (fun _ => True) rfl (by kernel_rfl) (by kernel_rfl) (by kernel_rfl) (wantG rfl rfl rfl hc60) rfl rfl trivial (fun w _ => (x_move (v := (Value.int .i64 l34)) rfl e7)) ?_
                  obtain ⟨q61, z61, r61, h⟩ := h
                  generalize hp61 : z61.add ((l34 : Int).toNat * 12) = p61 at h
                  refine wpD_take (v := (Value.pointer (some p61))) 10 (fun _ => True) rfl (by kernel_rfl) (by kernel_rfl) (by kernel_rfl) (wantG rfl rfl rfl hc60) rfl rfl trivial (fun w _ => ((x_indexAddr (s := p0) rfl rfl rfl ES_23 q61 r61).trans (by rw [hp61]))) ?_
                  refine wpD_take (v := (Value.pointer (some (p61.add 4)))) 11 (fun _ => True) rfl (by kernel_rfl) (by kernel_rfl) (by kernel_rfl) (wantG rfl rfl rfl hc60) rfl rfl trivial (fun w _ => (x_fieldAddr rfl rfl FA_41_4)) ?_
                  obtain ⟨x62, q62, h⟩ := h
                  refine wpD_take (v := (Value.int .i64 x62)) 12 (fun w => w.cell? (p61.add 4) = some (Value.int .i64 x62)) rfl (by kernel_rfl) (by kernel_rfl) (by kernel_rfl) (wantG rfl rfl rfl hc60) rfl rfl q62 (fun w q62 => (x_load1 rfl rfl SH_3 q62)) ?_
                  refine wpD_take (v := (Value.pointer (some ((Addr.mk b18 0 none).add 4)))) 13 (fun _ => True) rfl (by kernel_rfl) (by kernel_rfl) (by kernel_rfl) (wantG rfl rfl rfl hc60) rfl rfl trivial (fun w _ => (x_fieldAddr rfl e5 FA_41_4)) ?_
                  obtain ⟨x63, q63, h⟩ := h
                  refine wpD_take (v := (Value.int .i64 x63)) 14 (fun w => w.cell? ((Addr.mk b18 0 none).add 4) = some (Value.int .i64 x63)) rfl (by kernel_rfl) (by kernel_rfl) (by kernel_rfl) (wantG rfl rfl rfl hc60) rfl rfl q63 (fun w q63 => (x_load1 rfl rfl SH_3 q63)) ?_
                  refine wpD_take (v := (Value.bool (decide (x62 = x63)))) 15 (fun _ => True) rfl (by kernel_rfl) (by kernel_rfl) (by kernel_rfl) (wantG rfl rfl rfl hc60) rfl rfl trivial (fun w _ => (x_eql rfl rfl rfl)) ?_
                  refine wpD_take (v := (Value.bool (decide (x62 = x63)))) 16 (fun _ => True) rfl (by kernel_rfl) (by kernel_rfl) (by kernel_rfl) rfl rfl rfl trivial (fun w _ => (x_pickT (v := (Value.bool (decide (x62 = x63)))) rfl rfl hc60 rfl)) ?_
                  exact wpD_done (by kernel_rfl) ⟨decide (x62 = x63), ⟨rfl, e0, e3, e4, e5, e6, e7, trivial⟩, h⟩
                · replace h := h.2 hc60
                  refine wpD_pass 8 rfl (by kernel_rfl) (by kernel_rfl) (by kernel_rfl) (wantN rfl rfl rfl hc60) rfl rfl ?_
                  refine wpD_pass 9 rfl (by kernel_rfl) (by kernel_rfl) (by kernel_rfl) (wantN rfl rfl rfl hc60) rfl rfl ?_
                  refine wpD_pass 10 rfl (by kernel_rfl) (by kernel_rfl) (by kernel_rfl) (wantN rfl rfl rfl hc60) rfl rfl ?_
                  refine wpD_pass 11 rfl (by kernel_rfl) (by kernel_rfl) (by kernel_rfl) (wantN rfl rfl rfl hc60) rfl rfl ?_
                  refine wpD_pass 12 rfl (by kernel_rfl) (by kernel_rfl) (by kernel_rfl) (wantN rfl rfl rfl hc60) rfl rfl ?_
                  refine wpD_pass 13 rfl (by kernel_rfl) (by kernel_rfl) (by kernel_rfl) (wantN rfl rfl rfl hc60) rfl rfl ?_
                  refine wpD_pass 14 rfl (by kernel_rfl) (by kernel_rfl) (by kernel_rfl) (wantN rfl rfl rfl hc60) rfl rfl ?_
                  refine wpD_pass 15 rfl (by kernel_rfl) (by kernel_rfl) (by kernel_rfl) (wantN rfl rfl rfl hc60) rfl rfl ?_
                  refine wpD_take (v := (Value.bool false)) 16 (fun _ => True) rfl (by kernel_rfl) (by kernel_rfl) (by kernel_rfl) rfl rfl rfl trivial (fun w _ => (x_pickF (v := (Value.bool false)) rfl rfl hc60 rfl)) ?_
                  exact wpD_done (by kernel_rfl) ⟨false, ⟨rfl, e0, e3, e4, e5, e6, e7, trivial⟩, h⟩
              · replace h := h.2 hc58
                refine wpD_pass 2 rfl (by kernel_rfl) (by kernel_rfl) (by kernel_rfl) (wantN rfl rfl rfl hc58) rfl rfl ?_
                refine wpD_pass 3 rfl (by kernel_rfl) (by kernel_rfl) (by kernel_rfl) (wantN rfl rfl rfl hc58) rfl rfl ?_
                refine wpD_pass 4 rfl (by kernel_rfl) (by kernel_rfl) (by kernel_rfl) (wantN rfl rfl rfl hc58) rfl rfl ?_
                refine wpD_pass 5 rfl (by kernel_rfl) (by kernel_rfl) (by kernel_rfl) (wantN rfl rfl rfl hc58) rfl rfl ?_
                refine wpD_take (v := (Value.bool false)) 6 (fun _ => True) rfl (by kernel_rfl) (by kernel_rfl) (by kernel_rfl) rfl rfl rfl trivial (fun w _ => (x_pickF (v := (Value.bool false)) rfl rfl hc58 rfl)) ?_
                refine wpD_take (v := (Value.bool false)) 7 (fun _ => True) rfl (by kernel_rfl) (by kernel_rfl) (by kernel_rfl) rfl rfl rfl trivial (fun w _ => (x_move (v := (Value.bool false)) rfl rfl)) ?_
                refine wpD_pass 8 rfl (by kernel_rfl) (by kernel_rfl) (by kernel_rfl) (wantN rfl rfl rfl rfl) rfl rfl ?_
                refine wpD_pass 9 rfl (by kernel_rfl) (by kernel_rfl) (by kernel_rfl) (wantN rfl rfl rfl rfl) rfl rfl ?_
                refine wpD_pass 10 rfl (by kernel_rfl) (by kernel_rfl) (by kernel_rfl) (wantN rfl rfl rfl rfl) rfl rfl ?_
                refine wpD_pass 11 rfl (by kernel_rfl) (by kernel_rfl) (by kernel_rfl) (wantN rfl rfl rfl rfl) rfl rfl ?_
                refine wpD_pass 12 rfl (by kernel_rfl) (by kernel_rfl) (by kernel_rfl) (wantN rfl rfl rfl rfl) rfl rfl ?_
                refine wpD_pass 13 rfl (by kernel_rfl) (by kernel_rfl) (by kernel_rfl) (wantN rfl rfl rfl rfl) rfl rfl ?_
                refine wpD_pass 14 rfl (by kernel_rfl) (by kernel_rfl) (by kernel_rfl) (wantN rfl rfl rfl rfl) rfl rfl ?_
                refine wpD_pass 15 rfl (by kernel_rfl) (by kernel_rfl) (by kernel_rfl) (wantN rfl rfl rfl rfl) rfl rfl ?_
                refine wpD_take (v := (Value.bool false)) 16 (fun _ => True) rfl (by kernel_rfl) (by kernel_rfl) (by kernel_rfl) rfl rfl rfl trivial (fun w _ => (x_pickF (v := (Value.bool false)) rfl rfl rfl rfl)) ?_
                exact wpD_done (by kernel_rfl) ⟨false, ⟨rfl, e0, e3, e4, e5, e6, e7, trivial⟩, h⟩
            clear h
            rintro l64 ρ w15 ⟨e76, e0, e3, e4, e5, e6, e7, -⟩ h
            replace h := hk l64 w15 h
            clear hk
            refine wpC_cond (b := l64) e76 (fun hc65 => ?_) (fun hc65 => ?_)
            · replace h := h.1 hc65
              refine wpC_region ?_
              refine wpR_val (v := (Value.int .i64 l34)) (w' := w15) rfl rfl rfl (x_move (v := (Value.int .i64 l34)) rfl e7) ?_
              refine wpR_val (v := (Value.pointer (some ((Addr.mk b32 0 none).add 3)))) (w' := w15) rfl rfl rfl (x_fieldAddr rfl e6 FA_43_3) ?_
              obtain ⟨q66, h⟩ := h
              obtain ⟨w16, hw66⟩ : ∃ u, u = setAll w15 ((Addr.mk b32 0 none).add 3) [(Value.int .i64 l34)] 0 := ⟨_, rfl⟩
              replace h := h w16 hw66
              refine wpR_skp (w' := w16) rfl rfl ((x_store (v := (Value.int .i64 l34)) rfl rfl rfl SZ_3 (ones (by rfl)) q66).trans (by rw [hw66]; rfl)) ?_
              refine wpR_nil ?_
              exact ⟨(), ⟨e0, e3, e4, e5, e6, e7, trivial⟩, h⟩
            · replace h := h.2 hc65
              refine wpC_skip ?_
              exact ⟨(), ⟨e0, e3, e4, e5, e6, e7, trivial⟩, h⟩
          clear h
          rintro l41 ρ w12 ⟨e0, e3, e4, e5, e6, e7, -⟩ h
          replace h := hk l41 w12 h
          clear hk
          refine wpC_region ?_
          refine wpR_val (v := (Value.int .i64 l34)) (w' := w12) rfl rfl rfl (x_move (v := (Value.int .i64 l34)) rfl e7) ?_
          refine wpR_val (v := (Value.int .i64 (IntKind.i64.wrap (l34 + 1)))) (w' := w12) rfl rfl rfl (x_add rfl rfl rfl) ?_
          refine wpR_val (v := (Value.int .i64 (IntKind.i64.wrap (l34 + 1)))) (w' := w12) rfl rfl rfl (x_assign (v := (Value.int .i64 (IntKind.i64.wrap (l34 + 1)))) rfl rfl) ?_
          refine wpR_nil ?_
          exact ⟨IntKind.i64.wrap (l34 + 1), ⟨rfl, e0, e3, e4, e5, e6, trivial⟩, h⟩
        · replace h := h.2 hc39
          refine wpC_exit ?_
          refine wpC_region ?_
          refine wpR_val (v := (Sl.v l1.1)) (w' := w11) rfl rfl rfl (x_move (v := (Sl.v l1.1)) rfl e3) ?_
          obtain ⟨x67, q67, h⟩ := h
          obtain ⟨x68, q68, h⟩ := h
          obtain ⟨x69, q69, h⟩ := h
          obtain ⟨x70, q70, h⟩ := h
          refine wpR_val (v := (Value.agg #[(Value.int .i64 x67), (Value.int .i64 x68), (Value.int .i64 x69), (Value.int .i64 x70)])) (w' := w11) rfl rfl rfl (x_loadN [(Value.int .i64 x67), (Value.int .i64 x68), (Value.int .i64 x69), (Value.int .i64 x70)] rfl e6 SH_43 (CellsAt.out (CellsAt.cons q67 (CellsAt.cons q68 (CellsAt.cons q69 (CellsAt.cons q70 CellsAt.nil)))))) ?_
          obtain ⟨b71, hb71⟩ : ∃ u, u = w11.heap.size := ⟨_, rfl⟩
          obtain ⟨w17, hw71⟩ : ∃ u, u = w11.alloc (.cells #[(Value.int .i64 x67), (Value.int .i64 x68), (Value.int .i64 x69), (Value.int .i64 x70)] 43) := ⟨_, rfl⟩
          replace h := h b71 w17 hb71 hw71
          refine wpR_val (v := (Sl.v (⟨some ⟨b71, 0, none⟩, 1, 1⟩ : Sl))) (w' := w17) rfl rfl rfl ((x_buildSlice (qs := [(0, (Value.agg #[(Value.int .i64 x67), (Value.int .i64 x68), (Value.int .i64 x69), (Value.int .i64 x70)]))]) rfl (by rfl) (BS_37_1_0 x67 x68 x69 x70)).trans (by rw [← hb71, ← hw71])) ?_
          obtain ⟨r72, w18, q72, h⟩ := h
          refine wpR_val (v := (Sl.v r72)) (w' := w18) rfl rfl rfl (x_append (s := l1.1) (u := (⟨some ⟨b71, 0, none⟩, 1, 1⟩ : Sl)) rfl rfl rfl rfl q72) ?_
          refine wpR_val (v := (Sl.v r72)) (w' := w18) rfl rfl rfl (x_assign (v := (Sl.v r72)) rfl rfl) ?_
          refine wpR_nil ?_
          exact ⟨r72, ⟨rfl, e0, e4, trivial⟩, h⟩
    clear h
    rintro l4 ρ w2 ⟨e3, e0, e4, -⟩ h
    replace h := hk l4 w2 h
    clear hk
    refine wpC_region ?_
    refine wpR_val (v := (Value.int .i64 l1.2)) (w' := w2) rfl rfl rfl (x_move (v := (Value.int .i64 l1.2)) rfl e4) ?_
    refine wpR_val (v := (Value.int .i64 (IntKind.i64.wrap (l1.2 + 1)))) (w' := w2) rfl rfl rfl (x_add rfl rfl rfl) ?_
    refine wpR_val (v := (Value.int .i64 (IntKind.i64.wrap (l1.2 + 1)))) (w' := w2) rfl rfl rfl (x_assign (v := (Value.int .i64 (IntKind.i64.wrap (l1.2 + 1)))) rfl rfl) ?_
    refine wpR_nil ?_
    exact ⟨(l4, IntKind.i64.wrap (l1.2 + 1)), ⟨e3, rfl, e0, trivial⟩, h⟩
  · replace h := h.2 hc2
    refine wpC_exit ?_
    refine wpC_seq ?_
    refine wpC_cut (fun ρ => ρ 3 = (Sl.v l1.1) ∧ True) ⟨e3, trivial⟩ ?_
    rintro ρ ⟨e3, -⟩
    refine wpC_region ?_
    refine wpR_val (v := (Sl.v l1.1)) (w' := w1) rfl rfl rfl (x_move (v := (Sl.v l1.1)) rfl e3) ?_
    refine wpR_val (v := (Sl.v l1.1)) (w' := w1) rfl rfl rfl (x_assign (v := (Sl.v l1.1)) rfl rfl) ?_
    refine wpR_nil ?_
    refine wpC_ret ?_
    exact ⟨.inl rfl, fun a ha => ⟨_, results_rep1 rfl ha rfl, l1.1, rfl, h⟩⟩


end Go.Proofs.Ytcnnnhligkpamaa
