import Derived.Test.YtnoahloppffndaaRows
import Derived.Test.YtnoahloppffndaaFs1
import Derived.Test.YtnoahloppffndaaDecRaw
namespace Go.Proofs.Ytnoahloppffndaa
open Go.Dec
set_option maxHeartbeats 400000
set_option maxRecDepth 100000

/-- loss.ranks -/
def F36 (p0 : Sl) (w0 : World) (K : (Sl × Bool) → World → Prop) : Prop :=
  rn Try.prog (Instr.makeSlice 63 (Value.int .i64 9) (Value.int .i64 9)) (fun (r : Sl) => (Sl.v r)) w0 fun r9 w1 =>
  lp (fun (next10 : (Int × Int) → World → Prop) l10 w2 =>
    cnd (decide (l10.2 < (p0.len : Int)))
      (
      ix p0 l10.2 3 fun p12 =>
      ld (Value.int .i64) (p12.add 0) w2 fun x13 =>
      ld (Value.int .i64) (p12.add 1) w2 fun x14 =>
      ld (Value.int .i64) (p12.add 2) w2 fun x15 =>
      nw 44 #[(Value.int .i64 0), (Value.int .i64 0), (Value.int .i64 0)] w2 fun b16 w3 =>
      st (Addr.mk b16 0 none) [(Value.int .i64 x13), (Value.int .i64 x14), (Value.int .i64 x15)] w3 fun w4 =>
      ld (Value.int .i64) ((Addr.mk b16 0 none).add 0) w4 fun x18 =>
      jp (fun J19 => cnd (decide (x18 ≤ l10.1))
        (
        J19 true
        )
        (
        ld (Value.int .i64) ((Addr.mk b16 0 none).add 0) w4 fun x21 =>
        J19 (decide (9 ≤ x21))
        ))
      fun c22 =>
      cnd (c22)
        (
        K (Sl.nil, false) w4
        )
        (
        ld (Value.int .i64) ((Addr.mk b16 0 none).add 0) w4 fun x24 =>
        ld (Value.int .i64) ((Addr.mk b16 0 none).add 0) w4 fun x25 =>
        callC Try.prog 29 #[(V23 (ByteArray.mk #[]) 0 0 0 false 0 false false 0 0 0 0 Sl.nil 0 0 0 0 false 0 0 0 0), (Value.int .i64 x25)] (fun (r : Sl) => (Sl.v r)) w4 fun r26 w5 =>
        lp (fun (next27 : (Int × Int) → World → Prop) l27 w6 =>
          cnd (decide (l27.2 < (r26.len : Int)))
            (
            jn (fun (J29 : Int → World → Prop) =>
              ix r26 l27.2 3 fun p31 =>
              ld (Value.int .i64) (p31.add 0) w6 fun x32 =>
              ld (Value.int .i64) (p31.add 1) w6 fun x33 =>
              ld Value.bool (p31.add 2) w6 fun x34 =>
              nw 55 #[(Value.int .i64 0), (Value.int .i64 0), (Value.bool false)] w6 fun b35 w8 =>
              st (Addr.mk b35 0 none) [(Value.int .i64 x32), (Value.int .i64 x33), (Value.bool x34)] w8 fun w9 =>
              ld (Value.int .i64) (((Addr.mk b35 0 none).add 0).add 0) w9 fun x37 =>
              cnd (decide (x37 = 0))
                (
                J29 l27.1 w9
                )
                (
                ld (Value.int .i64) (((Addr.mk b35 0 none).add 0).add 0) w9 fun x39 =>
                ld (Value.int .i64) (((Addr.mk b35 0 none).add 0).add 1) w9 fun x40 =>
                ld (Value.int .i64) ((Addr.mk b16 0 none).add 1) w9 fun x41 =>
                ld (Value.int .i64) ((Addr.mk b16 0 none).add 2) w9 fun x42 =>
                cnd ((decide (x39 = x41) && (decide (x40 = x42) && true)))
                  (
                  ld (Value.int .i64) ((Addr.mk b16 0 none).add 0) w9 fun x44 =>
                  ix r9 x44 1 fun p45 =>
                  st p45 [(Value.int .i64 (IntKind.i64.wrap (l27.1 + 1)))] w9 fun w10 =>
                  J29 (IntKind.i64.wrap (l27.1 + 1)) w10
                  )
                  (
                  J29 (IntKind.i64.wrap (l27.1 + 1)) w9
                  )
                )
            )
            fun l30 w7 =>
            next27 (l30, IntKind.i64.wrap (l27.2 + 1)) w7
            )
            (
            ld (Value.int .i64) ((Addr.mk b16 0 none).add 0) w6 fun x47 =>
            ix r9 x47 1 fun p48 =>
            ld (Value.int .i64) p48 w6 fun x49 =>
            cnd (decide (x49 = 0))
              (
              K (Sl.nil, false) w6
              )
              (
              next10 (x24, IntKind.i64.wrap (l10.2 + 1)) w6
              )
            )
        ) (0, 0) w5
        )
      )
      (
      K (r9, true) w2
      )
  ) ((-1), 0) w1
set_option maxRecDepth 100000 in
theorem D36 (p0 : Sl) (w0 : World) (K : (Sl × Bool) → World → Prop) (h : F36 p0 w0 K) : callC Try.prog 36 #[(Sl.v p0)] (fun (r : Sl × Bool) => (Value.tuple #[(Sl.v r.1), (Value.bool r.2)])) w0 K := by
  unfold F36 at h
  refine calls_of_wpC Try.func36 rfl 66 rfl (by simp) ?_
  intro ρ hρ
  have e0 : ρ 0 = (Sl.v p0) := hρ 0
  clear hρ
  refine wpC_seq ?_
  refine wpC_region ?_
  refine wpR_val (v := (Sl.v Sl.nil)) (w' := w0) rfl rfl rfl (x_assign (v := (Sl.v Sl.nil)) rfl rfl) ?_
  refine wpR_val (v := (Value.bool false)) (w' := w0) rfl rfl rfl (x_assign (v := (Value.bool false)) rfl rfl) ?_
  refine wpR_nil ?_
  refine wpC_seq ?_
  refine wpC_cut (fun ρ => ρ 0 = (Sl.v p0) ∧ True) ⟨e0, trivial⟩ ?_
  rintro ρ ⟨e0, -⟩
  refine wpC_region ?_
  obtain ⟨r9, w1, q9, h⟩ := h
  refine wpR_val (v := (Sl.v r9)) (w' := w1) rfl rfl rfl (x_makeSlice rfl rfl rfl q9) ?_
  refine wpR_val (v := (Sl.v r9)) (w' := w1) rfl rfl rfl (x_assign (v := (Sl.v r9)) rfl rfl) ?_
  refine wpR_nil ?_
  refine wpC_seq ?_
  refine wpC_cut (fun ρ => ρ 0 = (Sl.v p0) ∧ ρ 4 = (Sl.v r9) ∧ True) ⟨e0, rfl, trivial⟩ ?_
  rintro ρ ⟨e0, e4, -⟩
  refine wpC_region ?_
  refine wpR_val (v := (Value.int .i64 (-1))) (w' := w1) rfl rfl rfl (x_assign (v := (Value.int .i64 (-1))) rfl rfl) ?_
  refine wpR_nil ?_
  refine wpC_seq ?_
  refine wpC_seq ?_
  refine wpC_cut (fun ρ => ρ 0 = (Sl.v p0) ∧ ρ 4 = (Sl.v r9) ∧ ρ 5 = (Value.int .i64 (-1)) ∧ True) ⟨e0, e4, rfl, trivial⟩ ?_
  rintro ρ ⟨e0, e4, e5, -⟩
  refine wpC_region ?_
  refine wpR_val (v := (Sl.v p0)) (w' := w1) rfl rfl rfl (x_move (v := (Sl.v p0)) rfl e0) ?_
  refine wpR_val (v := (Value.int .i64 (p0.len : Int))) (w' := w1) rfl rfl rfl (x_lenS (s := p0) rfl rfl isSliceT_26) ?_
  refine wpR_val (v := (Value.int .i64 0)) (w' := w1) rfl rfl rfl (x_move (v := (Value.int .i64 0)) rfl rfl) ?_
  refine wpR_nil ?_
  refine wpC_block ?_
  obtain ⟨I10, μ10, hI10, hr10⟩ := h
  refine wpC_loop (fun (x : Int × Int) ρ => ρ 5 = (Value.int .i64 x.1) ∧ ρ 14 = (Value.int .i64 x.2) ∧ ρ 4 = (Sl.v r9) ∧ ρ 12 = (Sl.v p0) ∧ ρ 13 = (Value.int .i64 (p0.len : Int)) ∧ True) I10 μ10 ((-1), 0) ⟨e5, rfl, e4, rfl, rfl, trivial⟩ hI10 ?_
  rintro l10 ρ w2 ⟨e5, e14, e4, e12, e13, -⟩ h
  replace h := hr10 l10 w2 h
  clear hr10 hI10
  refine wpC_seq ?_
  refine wpC_region ?_
  refine wpR_val (v := (Value.bool (decide (l10.2 < (p0.len : Int))))) (w' := w2) rfl rfl rfl (x_lss rfl e14 e13) ?_
  refine wpR_nil ?_
  refine wpC_seq ?_
  refine wpC_cond (b := decide (l10.2 < (p0.len : Int))) rfl (fun hc11 => ?_) (fun hc11 => ?_)
  · replace h := h.1 hc11
    refine wpC_skip ?_
    refine wpC_seq ?_
    refine wpC_block ?_
    refine wpC_seq ?_
    refine wpC_cut (fun ρ => ρ 4 = (Sl.v r9) ∧ ρ 5 = (Value.int .i64 l10.1) ∧ ρ 12 = (Sl.v p0) ∧ ρ 13 = (Value.int .i64 (p0.len : Int)) ∧ ρ 14 = (Value.int .i64 l10.2) ∧ True) ⟨e4, e5, e12, e13, e14, trivial⟩ ?_
    rintro ρ ⟨e4, e5, e12, e13, e14, -⟩
    refine wpC_region ?_
    obtain ⟨q12, z12, r12, h⟩ := h
    generalize hp12 : z12.add ((l10.2 : Int).toNat * 3) = p12 at h
    refine wpR_val (v := (Value.pointer (some p12))) (w' := w2) rfl rfl rfl ((x_indexAddr (s := p0) rfl e12 e14 ES_26 q12 r12).trans (by rw [hp12])) ?_
    obtain ⟨x13, q13, x14, q14, x15, q15, h⟩ := h
    refine wpR_val (v := (Value.agg #[(Value.int .i64 x13), (Value.int .i64 x14), (Value.int .i64 x15)])) (w' := w2) rfl rfl rfl (x_loadN [(Value.int .i64 x13), (Value.int .i64 x14), (Value.int .i64 x15)] rfl rfl SH_44 (CellsAt.out (CellsAt.cons q13 (CellsAt.cons q14 (CellsAt.cons q15 CellsAt.nil))))) ?_
    obtain ⟨b16, hb16⟩ : ∃ u, u = w2.heap.size := ⟨_, rfl⟩
    obtain ⟨w3, hw16⟩ : ∃ u, u = w2.alloc (.cells #[(Value.int .i64 0), (Value.int .i64 0), (Value.int .i64 0)] 44) := ⟨_, rfl⟩
    replace h := h b16 w3 hb16 hw16
    refine wpR_val (v := (Value.pointer (some (Addr.mk b16 0 none)))) (w' := w3) rfl rfl rfl ((x_alloc rfl ZV_44).trans (by rw [hb16, hw16]; rfl)) ?_
    obtain ⟨q17, h⟩ := h
    obtain ⟨w4, hw17⟩ : ∃ u, u = setAll w3 (Addr.mk b16 0 none) [(Value.int .i64 x13), (Value.int .i64 x14), (Value.int .i64 x15)] 0 := ⟨_, rfl⟩
    replace h := h w4 hw17
    refine wpR_skp (w' := w4) rfl rfl ((x_store (v := (Value.agg #[(Value.int .i64 x13), (Value.int .i64 x14), (Value.int .i64 x15)])) rfl rfl rfl SZ_44 (ones (by rfl)) q17).trans (by rw [hw17]; rfl)) ?_
    refine wpR_nil ?_
    refine wpC_seq ?_
    refine wpC_seq ?_
    refine wpC_cut (fun ρ => ρ 4 = (Sl.v r9) ∧ ρ 5 = (Value.int .i64 l10.1) ∧ ρ 7 = (Value.pointer (some (Addr.mk b16 0 none))) ∧ ρ 12 = (Sl.v p0) ∧ ρ 13 = (Value.int .i64 (p0.len : Int)) ∧ ρ 14 = (Value.int .i64 l10.2) ∧ True) ⟨e4, e5, rfl, e12, e13, e14, trivial⟩ ?_
    rintro ρ ⟨e4, e5, e7, e12, e13, e14, -⟩
    refine wpC_region ?_
    refine wpR_val (v := (Value.pointer (some ((Addr.mk b16 0 none).add 0)))) (w' := w4) rfl rfl rfl (x_fieldAddr rfl e7 FA_44_0) ?_
    obtain ⟨x18, q18, h⟩ := h
    refine wpR_val (v := (Value.int .i64 x18)) (w' := w4) rfl rfl rfl (x_load1 rfl rfl SH_3 q18) ?_
    refine wpR_val (v := (Value.int .i64 l10.1)) (w' := w4) rfl rfl rfl (x_move (v := (Value.int .i64 l10.1)) rfl e5) ?_
    refine wpR_val (v := (Value.bool (decide (x18 ≤ l10.1)))) (w' := w4) rfl rfl rfl (x_leq rfl rfl rfl) ?_
    refine wpR_val (v := (Value.bool (decide (x18 ≤ l10.1)))) (w' := w4) rfl rfl rfl (x_move (v := (Value.bool (decide (x18 ≤ l10.1)))) rfl rfl) ?_
    obtain ⟨J19, h, hk⟩ := h
    refine wpR_joinJ 4 (fun x ρ => ρ 26 = Value.bool x ∧ ρ 4 = (Sl.v r9) ∧ ρ 7 = (Value.pointer (some (Addr.mk b16 0 none))) ∧ ρ 12 = (Sl.v p0) ∧ ρ 13 = (Value.int .i64 (p0.len : Int)) ∧ ρ 14 = (Value.int .i64 l10.2) ∧ True) (fun x w => J19 x ∧ w4 = w) ?_ ?_
    · clear hk
      rcases Bool.eq_false_or_eq_true (decide (x18 ≤ l10.1)) with hc20 | hc20
      · replace h := h.1 hc20
        refine wpR_pass (wantN rfl rfl rfl hc20) rfl rfl ?_
        refine wpR_pass (wantN rfl rfl rfl hc20) rfl rfl ?_
        refine wpR_pass (wantN rfl rfl rfl hc20) rfl rfl ?_
        refine wpR_val (v := (Value.bool true)) (w' := w4) rfl rfl rfl (x_pickT (v := (Value.bool true)) rfl rfl hc20 rfl) ?_
        refine wpR_nil ?_
        exact ⟨true, ⟨rfl, e4, e7, e12, e13, e14, trivial⟩, h, rfl⟩
      · replace h := h.2 hc20
        refine wpR_val (v := (Value.pointer (some ((Addr.mk b16 0 none).add 0)))) (w' := w4) (wantG rfl rfl rfl hc20) rfl rfl (x_fieldAddr rfl e7 FA_44_0) ?_
        obtain ⟨x21, q21, h⟩ := h
        refine wpR_val (v := (Value.int .i64 x21)) (w' := w4) (wantG rfl rfl rfl hc20) rfl rfl (x_load1 rfl rfl SH_3 q21) ?_
        refine wpR_val (v := (Value.bool (decide (9 ≤ x21)))) (w' := w4) (wantG rfl rfl rfl hc20) rfl rfl (x_geq rfl rfl rfl) ?_
        refine wpR_val (v := (Value.bool (decide (9 ≤ x21)))) (w' := w4) rfl rfl rfl (x_pickF (v := (Value.bool (decide (9 ≤ x21)))) rfl rfl hc20 rfl) ?_
        refine wpR_nil ?_
        exact ⟨decide (9 ≤ x21), ⟨rfl, e4, e7, e12, e13, e14, trivial⟩, h, rfl⟩
    clear h
    rintro c22 ρ wj ⟨e26, e4, e7, e12, e13, e14, -⟩ ⟨h, rfl⟩
    replace h := hk c22 h
    clear hk
    refine wpR_nil ?_
    refine wpC_cond (b := c22) e26 (fun hc23 => ?_) (fun hc23 => ?_)
    · replace h := h.1 hc23
      refine wpC_seq ?_
      refine wpC_region ?_
      refine wpR_val (v := (Sl.v Sl.nil)) (w' := w4) rfl rfl rfl (x_assign (v := (Sl.v Sl.nil)) rfl rfl) ?_
      refine wpR_val (v := (Value.bool false)) (w' := w4) rfl rfl rfl (x_assign (v := (Value.bool false)) rfl rfl) ?_
      refine wpR_nil ?_
      refine wpC_ret ?_
      exact ⟨.inl rfl, fun a ha => ⟨_, results_rep2 rfl ha rfl rfl, (Sl.nil, false), rfl, h⟩⟩
    · replace h := h.2 hc23
      refine wpC_skip ?_
      refine wpC_seq ?_
      refine wpC_region ?_
      refine wpR_val (v := (Value.pointer (some ((Addr.mk b16 0 none).add 0)))) (w' := w4) rfl rfl rfl (x_fieldAddr rfl e7 FA_44_0) ?_
      obtain ⟨x24, q24, h⟩ := h
      refine wpR_val (v := (Value.int .i64 x24)) (w' := w4) rfl rfl rfl (x_load1 rfl rfl SH_3 q24) ?_
      refine wpR_val (v := (Value.int .i64 x24)) (w' := w4) rfl rfl rfl (x_assign (v := (Value.int .i64 x24)) rfl rfl) ?_
      refine wpR_nil ?_
      refine wpC_seq ?_
      refine wpC_cut (fun ρ => ρ 4 = (Sl.v r9) ∧ ρ 5 = (Value.int .i64 x24) ∧ ρ 7 = (Value.pointer (some (Addr.mk b16 0 none))) ∧ ρ 12 = (Sl.v p0) ∧ ρ 13 = (Value.int .i64 (p0.len : Int)) ∧ ρ 14 = (Value.int .i64 l10.2) ∧ True) ⟨e4, rfl, e7, e12, e13, e14, trivial⟩ ?_
      rintro ρ ⟨e4, e5, e7, e12, e13, e14, -⟩
      refine wpC_region ?_
      refine wpR_val (v := (Value.int .i64 0)) (w' := w4) rfl rfl rfl (x_assign (v := (Value.int .i64 0)) rfl rfl) ?_
      refine wpR_nil ?_
      refine wpC_seq ?_
      refine wpC_seq ?_
      refine wpC_cut (fun ρ => ρ 4 = (Sl.v r9) ∧ ρ 5 = (Value.int .i64 x24) ∧ ρ 7 = (Value.pointer (some (Addr.mk b16 0 none))) ∧ ρ 8 = (Value.int .i64 0) ∧ ρ 12 = (Sl.v p0) ∧ ρ 13 = (Value.int .i64 (p0.len : Int)) ∧ ρ 14 = (Value.int .i64 l10.2) ∧ True) ⟨e4, e5, e7, rfl, e12, e13, e14, trivial⟩ ?_
      rintro ρ ⟨e4, e5, e7, e8, e12, e13, e14, -⟩
      refine wpC_region ?_
      refine wpR_val (v := (V23 (ByteArray.mk #[]) 0 0 0 false 0 false false 0 0 0 0 Sl.nil 0 0 0 0 false 0 0 0 0)) (w' := w4) rfl rfl rfl (x_build (qs := []) rfl (by rfl) (BD_24_  _)) ?_
      refine wpR_val (v := (Value.pointer (some ((Addr.mk b16 0 none).add 0)))) (w' := w4) rfl rfl rfl (x_fieldAddr rfl e7 FA_44_0) ?_
      obtain ⟨x25, q25, h⟩ := h
      refine wpR_val (v := (Value.int .i64 x25)) (w' := w4) rfl rfl rfl (x_load1 rfl rfl SH_3 q25) ?_
      refine wpR_enter rfl rfl rfl (x_call (vs := [(V23 (ByteArray.mk #[]) 0 0 0 false 0 false false 0 0 0 0 Sl.nil 0 0 0 0 false 0 0 0 0), (Value.int .i64 x25)]) rfl rfl (mapl_cons rfl (mapl_cons rfl mapl_nil)) Try.func29 NN_29 NB_29) (Calls.mono h ?_)
      rintro _ w5 ⟨r26, rfl, h⟩
      refine ⟨_, rfl, ?_⟩
      refine wpR_val (v := (Value.int .i64 (r26.len : Int))) (w' := w5) rfl rfl rfl (x_lenS (s := r26) rfl rfl isSliceT_51) ?_
      refine wpR_val (v := (Value.int .i64 0)) (w' := w5) rfl rfl rfl (x_move (v := (Value.int .i64 0)) rfl rfl) ?_
      refine wpR_nil ?_
      refine wpC_block ?_
      obtain ⟨I27, μ27, hI27, hr27⟩ := h
      refine wpC_loop (fun (x : Int × Int) ρ => ρ 8 = (Value.int .i64 x.1) ∧ ρ 34 = (Value.int .i64 x.2) ∧ ρ 4 = (Sl.v r9) ∧ ρ 5 = (Value.int .i64 x24) ∧ ρ 7 = (Value.pointer (some (Addr.mk b16 0 none))) ∧ ρ 12 = (Sl.v p0) ∧ ρ 13 = (Value.int .i64 (p0.len : Int)) ∧ ρ 14 = (Value.int .i64 l10.2) ∧ ρ 32 = (Sl.v r26) ∧ ρ 33 = (Value.int .i64 (r26.len : Int)) ∧ True) I27 μ27 (0, 0) ⟨e8, rfl, e4, e5, e7, e12, e13, e14, rfl, rfl, trivial⟩ hI27 ?_
      rintro l27 ρ w6 ⟨e8, e34, e4, e5, e7, e12, e13, e14, e32, e33, -⟩ h
      replace h := hr27 l27 w6 h
      clear hr27 hI27
      refine wpC_seq ?_
      refine wpC_region ?_
      refine wpR_val (v := (Value.bool (decide (l27.2 < (r26.len : Int))))) (w' := w6) rfl rfl rfl (x_lss rfl e34 e33) ?_
      refine wpR_nil ?_
      refine wpC_seq ?_
      refine wpC_cond (b := decide (l27.2 < (r26.len : Int))) rfl (fun hc28 => ?_) (fun hc28 => ?_)
      · replace h := h.1 hc28
        refine wpC_skip ?_
        obtain ⟨J29, h, hk⟩ := h
        refine wpC_seqJ (fun (x : Int) ρ => ρ 8 = (Value.int .i64 x) ∧ ρ 4 = (Sl.v r9) ∧ ρ 5 = (Value.int .i64 x24) ∧ ρ 7 = (Value.pointer (some (Addr.mk b16 0 none))) ∧ ρ 12 = (Sl.v p0) ∧ ρ 13 = (Value.int .i64 (p0.len : Int)) ∧ ρ 14 = (Value.int .i64 l10.2) ∧ ρ 32 = (Sl.v r26) ∧ ρ 33 = (Value.int .i64 (r26.len : Int)) ∧ ρ 34 = (Value.int .i64 l27.2) ∧ True) J29 ?_ ?_
        · clear hk
          refine wpC_block ?_
          refine wpC_seq ?_
          refine wpC_cut (fun ρ => ρ 4 = (Sl.v r9) ∧ ρ 5 = (Value.int .i64 x24) ∧ ρ 7 = (Value.pointer (some (Addr.mk b16 0 none))) ∧ ρ 8 = (Value.int .i64 l27.1) ∧ ρ 12 = (Sl.v p0) ∧ ρ 13 = (Value.int .i64 (p0.len : Int)) ∧ ρ 14 = (Value.int .i64 l10.2) ∧ ρ 32 = (Sl.v r26) ∧ ρ 33 = (Value.int .i64 (r26.len : Int)) ∧ ρ 34 = (Value.int .i64 l27.2) ∧ True) ⟨e4, e5, e7, e8, e12, e13, e14, e32, e33, e34, trivial⟩ ?_
          rintro ρ ⟨e4, e5, e7, e8, e12, e13, e14, e32, e33, e34, -⟩
          refine wpC_region ?_
          obtain ⟨q31, z31, r31, h⟩ := h
          generalize hp31 : z31.add ((l27.2 : Int).toNat * 3) = p31 at h
          refine wpR_val (v := (Value.pointer (some p31))) (w' := w6) rfl rfl rfl ((x_indexAddr (s := r26) rfl e32 e34 ES_51 q31 r31).trans (by rw [hp31])) ?_
          obtain ⟨x32, q32, x33, q33, x34, q34, h⟩ := h
          refine wpR_val (v := (Value.agg #[(Value.int .i64 x32), (Value.int .i64 x33), (Value.bool x34)])) (w' := w6) rfl rfl rfl (x_loadN [(Value.int .i64 x32), (Value.int .i64 x33), (Value.bool x34)] rfl rfl SH_55 (CellsAt.out (CellsAt.cons q32 (CellsAt.cons q33 (CellsAt.cons q34 CellsAt.nil))))) ?_
          obtain ⟨b35, hb35⟩ : ∃ u, u = w6.heap.size := ⟨_, rfl⟩
          obtain ⟨w8, hw35⟩ : ∃ u, u = w6.alloc (.cells #[(Value.int .i64 0), (Value.int .i64 0), (Value.bool false)] 55) := ⟨_, rfl⟩
          replace h := h b35 w8 hb35 hw35
          refine wpR_val (v := (Value.pointer (some (Addr.mk b35 0 none)))) (w' := w8) rfl rfl rfl ((x_alloc rfl ZV_55).trans (by rw [hb35, hw35]; rfl)) ?_
          obtain ⟨q36, h⟩ := h
          obtain ⟨w9, hw36⟩ : ∃ u, u = setAll w8 (Addr.mk b35 0 none) [(Value.int .i64 x32), (Value.int .i64 x33), (Value.bool x34)] 0 := ⟨_, rfl⟩
          replace h := h w9 hw36
          refine wpR_skp (w' := w9) rfl rfl ((x_store (v := (Value.agg #[(Value.int .i64 x32), (Value.int .i64 x33), (Value.bool x34)])) rfl rfl rfl SZ_55 (ones (by rfl)) q36).trans (by rw [hw36]; rfl)) ?_
          refine wpR_nil ?_
          refine wpC_seq ?_
          refine wpC_seq ?_
          refine wpC_cut (fun ρ => ρ 4 = (Sl.v r9) ∧ ρ 5 = (Value.int .i64 x24) ∧ ρ 7 = (Value.pointer (some (Addr.mk b16 0 none))) ∧ ρ 8 = (Value.int .i64 l27.1) ∧ ρ 10 = (Value.pointer (some (Addr.mk b35 0 none))) ∧ ρ 12 = (Sl.v p0) ∧ ρ 13 = (Value.int .i64 (p0.len : Int)) ∧ ρ 14 = (Value.int .i64 l10.2) ∧ ρ 32 = (Sl.v r26) ∧ ρ 33 = (Value.int .i64 (r26.len : Int)) ∧ ρ 34 = (Value.int .i64 l27.2) ∧ True) ⟨e4, e5, e7, e8, rfl, e12, e13, e14, e32, e33, e34, trivial⟩ ?_
          rintro ρ ⟨e4, e5, e7, e8, e10, e12, e13, e14, e32, e33, e34, -⟩
          refine wpC_region ?_
          refine wpR_val (v := (Value.pointer (some ((Addr.mk b35 0 none).add 0)))) (w' := w9) rfl rfl rfl (x_fieldAddr rfl e10 FA_55_0) ?_
          refine wpR_val (v := (Value.pointer (some (((Addr.mk b35 0 none).add 0).add 0)))) (w' := w9) rfl rfl rfl (x_fieldAddr rfl rfl FA_46_0) ?_
          obtain ⟨x37, q37, h⟩ := h
          refine wpR_val (v := (Value.int .i64 x37)) (w' := w9) rfl rfl rfl (x_load1 rfl rfl SH_3 q37) ?_
          refine wpR_val (v := (Value.bool (decide (x37 = 0)))) (w' := w9) rfl rfl rfl (x_eql rfl rfl rfl) ?_
          refine wpR_nil ?_
          refine wpC_cond (b := decide (x37 = 0)) rfl (fun hc38 => ?_) (fun hc38 => ?_)
          · replace h := h.1 hc38
            refine wpC_exit ?_
            exact ⟨l27.1, ⟨e8, e4, e5, e7, e12, e13, e14, e32, e33, e34, trivial⟩, h⟩
          · replace h := h.2 hc38
            refine wpC_skip ?_
            refine wpC_seq ?_
            refine wpC_cut (fun ρ => ρ 4 = (Sl.v r9) ∧ ρ 5 = (Value.int .i64 x24) ∧ ρ 7 = (Value.pointer (some (Addr.mk b16 0 none))) ∧ ρ 8 = (Value.int .i64 l27.1) ∧ ρ 10 = (Value.pointer (some (Addr.mk b35 0 none))) ∧ ρ 12 = (Sl.v p0) ∧ ρ 13 = (Value.int .i64 (p0.len : Int)) ∧ ρ 14 = (Value.int .i64 l10.2) ∧ ρ 32 = (Sl.v r26) ∧ ρ 33 = (Value.int .i64 (r26.len : Int)) ∧ ρ 34 = (Value.int .i64 l27.2) ∧ True) ⟨e4, e5, e7, e8, e10, e12, e13, e14, e32, e33, e34, trivial⟩ ?_
            rintro ρ ⟨e4, e5, e7, e8, e10, e12, e13, e14, e32, e33, e34, -⟩
            refine wpC_region ?_
            refine wpR_val (v := (Value.int .i64 l27.1)) (w' := w9) rfl rfl rfl (x_move (v := (Value.int .i64 l27.1)) rfl e8) ?_
            refine wpR_val (v := (Value.int .i64 (IntKind.i64.wrap (l27.1 + 1)))) (w' := w9) rfl rfl rfl (x_add rfl rfl rfl) ?_
            refine wpR_val (v := (Value.int .i64 (IntKind.i64.wrap (l27.1 + 1)))) (w' := w9) rfl rfl rfl (x_assign (v := (Value.int .i64 (IntKind.i64.wrap (l27.1 + 1)))) rfl rfl) ?_
            refine wpR_nil ?_
            refine wpC_seq ?_
            refine wpC_cut (fun ρ => ρ 4 = (Sl.v r9) ∧ ρ 5 = (Value.int .i64 x24) ∧ ρ 7 = (Value.pointer (some (Addr.mk b16 0 none))) ∧ ρ 8 = (Value.int .i64 (IntKind.i64.wrap (l27.1 + 1))) ∧ ρ 10 = (Value.pointer (some (Addr.mk b35 0 none))) ∧ ρ 12 = (Sl.v p0) ∧ ρ 13 = (Value.int .i64 (p0.len : Int)) ∧ ρ 14 = (Value.int .i64 l10.2) ∧ ρ 32 = (Sl.v r26) ∧ ρ 33 = (Value.int .i64 (r26.len : Int)) ∧ ρ 34 = (Value.int .i64 l27.2) ∧ True) ⟨e4, e5, e7, rfl, e10, e12, e13, e14, e32, e33, e34, trivial⟩ ?_
            rintro ρ ⟨e4, e5, e7, e8, e10, e12, e13, e14, e32, e33, e34, -⟩
            refine wpC_region ?_
            refine wpR_val (v := (Value.pointer (some ((Addr.mk b35 0 none).add 0)))) (w' := w9) rfl rfl rfl (x_fieldAddr rfl e10 FA_55_0) ?_
            obtain ⟨x39, q39, x40, q40, h⟩ := h
            refine wpR_val (v := (Value.agg #[(Value.int .i64 x39), (Value.int .i64 x40)])) (w' := w9) rfl rfl rfl (x_loadN [(Value.int .i64 x39), (Value.int .i64 x40)] rfl rfl SH_46 (CellsAt.out (CellsAt.cons q39 (CellsAt.cons q40 CellsAt.nil)))) ?_
            refine wpR_val (v := (Value.pointer (some ((Addr.mk b16 0 none).add 1)))) (w' := w9) rfl rfl rfl (x_fieldAddr rfl e7 FA_44_1) ?_
            obtain ⟨x41, q41, h⟩ := h
            refine wpR_val (v := (Value.int .i64 x41)) (w' := w9) rfl rfl rfl (x_load1 rfl rfl SH_3 q41) ?_
            refine wpR_val (v := (Value.pointer (some ((Addr.mk b16 0 none).add 2)))) (w' := w9) rfl rfl rfl (x_fieldAddr rfl e7 FA_44_2) ?_
            obtain ⟨x42, q42, h⟩ := h
            refine wpR_val (v := (Value.int .i64 x42)) (w' := w9) rfl rfl rfl (x_load1 rfl rfl SH_3 q42) ?_
            refine wpR_val (v := (Value.agg #[(Value.int .i64 x41), (Value.int .i64 x42)])) (w' := w9) rfl rfl rfl (x_build (qs := [(0, (Value.int .i64 x41)), (1, (Value.int .i64 x42))]) rfl (by rfl) (BD_46_0_1 x41 x42 _)) ?_
            refine wpR_val (v := (Value.bool (decide (x39 = x41) && (decide (x40 = x42) && true)))) (w' := w9) rfl rfl rfl (x_eqlA rfl rfl rfl EQ1_46 EQ2_46 EQ3_46 (EQ_46 x39 x40 x41 x42)) ?_
            refine wpR_nil ?_
            refine wpC_cond (b := (decide (x39 = x41) && (decide (x40 = x42) && true))) rfl (fun hc43 => ?_) (fun hc43 => ?_)
            · replace h := h.1 hc43
              refine wpC_cut (fun ρ => ρ 4 = (Sl.v r9) ∧ ρ 5 = (Value.int .i64 x24) ∧ ρ 7 = (Value.pointer (some (Addr.mk b16 0 none))) ∧ ρ 8 = (Value.int .i64 (IntKind.i64.wrap (l27.1 + 1))) ∧ ρ 12 = (Sl.v p0) ∧ ρ 13 = (Value.int .i64 (p0.len : Int)) ∧ ρ 14 = (Value.int .i64 l10.2) ∧ ρ 32 = (Sl.v r26) ∧ ρ 33 = (Value.int .i64 (r26.len : Int)) ∧ ρ 34 = (Value.int .i64 l27.2) ∧ True) ⟨e4, e5, e7, e8, e12, e13, e14, e32, e33, e34, trivial⟩ ?_
              rintro ρ ⟨e4, e5, e7, e8, e12, e13, e14, e32, e33, e34, -⟩
              refine wpC_region ?_
              refine wpR_val (v := (Sl.v r9)) (w' := w9) rfl rfl rfl (x_move (v := (Sl.v r9)) rfl e4) ?_
              refine wpR_val (v := (Value.pointer (some ((Addr.mk b16 0 none).add 0)))) (w' := w9) rfl rfl rfl (x_fieldAddr rfl e7 FA_44_0) ?_
              obtain ⟨x44, q44, h⟩ := h
              refine wpR_val (v := (Value.int .i64 x44)) (w' := w9) rfl rfl rfl (x_load1 rfl rfl SH_3 q44) ?_
              refine wpR_val (v := (Value.int .i64 (IntKind.i64.wrap (l27.1 + 1)))) (w' := w9) rfl rfl rfl (x_move (v := (Value.int .i64 (IntKind.i64.wrap (l27.1 + 1)))) rfl e8) ?_
              obtain ⟨q45, z45, r45, h⟩ := h
              generalize hp45 : z45.add ((x44 : Int).toNat * 1) = p45 at h
              refine wpR_val (v := (Value.pointer (some p45))) (w' := w9) rfl rfl rfl ((x_indexAddr (s := r9) rfl rfl rfl ES_63 q45 r45).trans (by rw [hp45])) ?_
              obtain ⟨q46, h⟩ := h
              obtain ⟨w10, hw46⟩ : ∃ u, u = setAll w9 p45 [(Value.int .i64 (IntKind.i64.wrap (l27.1 + 1)))] 0 := ⟨_, rfl⟩
              replace h := h w10 hw46
              refine wpR_skp (w' := w10) rfl rfl ((x_store (v := (Value.int .i64 (IntKind.i64.wrap (l27.1 + 1)))) rfl rfl rfl SZ_3 (ones (by rfl)) q46).trans (by rw [hw46]; rfl)) ?_
              refine wpR_nil ?_
              exact ⟨IntKind.i64.wrap (l27.1 + 1), ⟨e8, e4, e5, e7, e12, e13, e14, e32, e33, e34, trivial⟩, h⟩
            · replace h := h.2 hc43
              refine wpC_skip ?_
              exact ⟨IntKind.i64.wrap (l27.1 + 1), ⟨e8, e4, e5, e7, e12, e13, e14, e32, e33, e34, trivial⟩, h⟩
        clear h
        rintro l30 ρ w7 ⟨e8, e4, e5, e7, e12, e13, e14, e32, e33, e34, -⟩ h
        replace h := hk l30 w7 h
        clear hk
        refine wpC_region ?_
        refine wpR_val (v := (Value.int .i64 (IntKind.i64.wrap (l27.2 + 1)))) (w' := w7) rfl rfl rfl (x_add rfl e34 rfl) ?_
        refine wpR_val (v := (Value.int .i64 (IntKind.i64.wrap (l27.2 + 1)))) (w' := w7) rfl rfl rfl (x_move (v := (Value.int .i64 (IntKind.i64.wrap (l27.2 + 1)))) rfl rfl) ?_
        refine wpR_nil ?_
        exact ⟨(l30, IntKind.i64.wrap (l27.2 + 1)), ⟨e8, rfl, e4, e5, e7, e12, e13, e14, e32, e33, trivial⟩, h⟩
      · replace h := h.2 hc28
        refine wpC_exit ?_
        refine wpC_seq ?_
        refine wpC_cut (fun ρ => ρ 4 = (Sl.v r9) ∧ ρ 5 = (Value.int .i64 x24) ∧ ρ 7 = (Value.pointer (some (Addr.mk b16 0 none))) ∧ ρ 12 = (Sl.v p0) ∧ ρ 13 = (Value.int .i64 (p0.len : Int)) ∧ ρ 14 = (Value.int .i64 l10.2) ∧ True) ⟨e4, e5, e7, e12, e13, e14, trivial⟩ ?_
        rintro ρ ⟨e4, e5, e7, e12, e13, e14, -⟩
        refine wpC_region ?_
        refine wpR_val (v := (Sl.v r9)) (w' := w6) rfl rfl rfl (x_move (v := (Sl.v r9)) rfl e4) ?_
        refine wpR_val (v := (Value.pointer (some ((Addr.mk b16 0 none).add 0)))) (w' := w6) rfl rfl rfl (x_fieldAddr rfl e7 FA_44_0) ?_
        obtain ⟨x47, q47, h⟩ := h
        refine wpR_val (v := (Value.int .i64 x47)) (w' := w6) rfl rfl rfl (x_load1 rfl rfl SH_3 q47) ?_
        obtain ⟨q48, z48, r48, h⟩ := h
        generalize hp48 : z48.add ((x47 : Int).toNat * 1) = p48 at h
        refine wpR_val (v := (Value.pointer (some p48))) (w' := w6) rfl rfl rfl ((x_indexAddr (s := r9) rfl rfl rfl ES_63 q48 r48).trans (by rw [hp48])) ?_
        obtain ⟨x49, q49, h⟩ := h
        refine wpR_val (v := (Value.int .i64 x49)) (w' := w6) rfl rfl rfl (x_load1 rfl rfl SH_3 q49) ?_
        refine wpR_val (v := (Value.bool (decide (x49 = 0)))) (w' := w6) rfl rfl rfl (x_eql rfl rfl rfl) ?_
        refine wpR_nil ?_
        refine wpC_cond (b := decide (x49 = 0)) rfl (fun hc50 => ?_) (fun hc50 => ?_)
        · replace h := h.1 hc50
          refine wpC_seq ?_
          refine wpC_cut (fun ρ => True) trivial ?_
          rintro ρ -
          refine wpC_region ?_
          refine wpR_val (v := (Sl.v Sl.nil)) (w' := w6) rfl rfl rfl (x_assign (v := (Sl.v Sl.nil)) rfl rfl) ?_
          refine wpR_val (v := (Value.bool false)) (w' := w6) rfl rfl rfl (x_assign (v := (Value.bool false)) rfl rfl) ?_
          refine wpR_nil ?_
          refine wpC_ret ?_
          exact ⟨.inl rfl, fun a ha => ⟨_, results_rep2 rfl ha rfl rfl, (Sl.nil, false), rfl, h⟩⟩
        · replace h := h.2 hc50
          refine wpC_skip ?_
          refine wpC_cut (fun ρ => ρ 4 = (Sl.v r9) ∧ ρ 5 = (Value.int .i64 x24) ∧ ρ 12 = (Sl.v p0) ∧ ρ 13 = (Value.int .i64 (p0.len : Int)) ∧ ρ 14 = (Value.int .i64 l10.2) ∧ True) ⟨e4, e5, e12, e13, e14, trivial⟩ ?_
          rintro ρ ⟨e4, e5, e12, e13, e14, -⟩
          refine wpC_region ?_
          refine wpR_val (v := (Value.int .i64 (IntKind.i64.wrap (l10.2 + 1)))) (w' := w6) rfl rfl rfl (x_add rfl e14 rfl) ?_
          refine wpR_val (v := (Value.int .i64 (IntKind.i64.wrap (l10.2 + 1)))) (w' := w6) rfl rfl rfl (x_move (v := (Value.int .i64 (IntKind.i64.wrap (l10.2 + 1)))) rfl rfl) ?_
          refine wpR_nil ?_
          exact ⟨(x24, IntKind.i64.wrap (l10.2 + 1)), ⟨e5, rfl, e4, e12, e13, trivial⟩, h⟩
  · replace h := h.2 hc11
    refine wpC_exit ?_
    refine wpC_seq ?_
    refine wpC_cut (fun ρ => ρ 4 = (Sl.v r9) ∧ True) ⟨e4, trivial⟩ ?_
    rintro ρ ⟨e4, -⟩
    refine wpC_region ?_
    refine wpR_val (v := (Sl.v r9)) (w' := w2) rfl rfl rfl (x_move (v := (Sl.v r9)) rfl e4) ?_
    refine wpR_val (v := (Sl.v r9)) (w' := w2) rfl rfl rfl (x_assign (v := (Sl.v r9)) rfl rfl) ?_
    refine wpR_val (v := (Value.bool true)) (w' := w2) rfl rfl rfl (x_assign (v := (Value.bool true)) rfl rfl) ?_
    refine wpR_nil ?_
    refine wpC_ret ?_
    exact ⟨.inl rfl, fun a ha => ⟨_, results_rep2 rfl ha rfl rfl, (r9, true), rfl, h⟩⟩

/-- syntax.Right -/
def F39 (p0_0 : ByteArray) (p0_1 : Int) (p0_2 : Int) (p0_3 : Int) (p0_4 : Bool) (p0_5 : Int) (p0_6 : Bool) (p0_7 : Bool) (p0_8 : Int) (p0_9 : Int) (p0_10 : Int) (p0_11 : Int) (p0_12 : Sl) (p0_13 : Int) (p0_14 : Int) (p0_15 : Int) (p0_16 : Int) (p0_17 : Bool) (p0_18 : Int) (p0_19 : Int) (p0_20 : Int) (p0_21 : Int) (w0 : World) (K : Bool → World → Prop) : Prop :=
  nw 24 (A23 p0_0 p0_1 p0_2 p0_3 p0_4 p0_5 p0_6 p0_7 p0_8 p0_9 p0_10 p0_11 p0_12 p0_13 p0_14 p0_15 p0_16 p0_17 p0_18 p0_19 p0_20 p0_21) w0 fun b9 w1 =>
  ld (Value.int .i64) ((Addr.mk b9 0 none).add 2) w1 fun x10 =>
  ld (Value.int .i64) ((Addr.mk b9 0 none).add 8) w1 fun x11 =>
  ld (Value.int .i64) ((Addr.mk b9 0 none).add 9) w1 fun x12 =>
  ld (Value.int .i64) ((Addr.mk b9 0 none).add 10) w1 fun x13 =>
  ld (Value.int .i64) ((Addr.mk b9 0 none).add 11) w1 fun x14 =>
  ld (Value.int .i64) ((Addr.mk b9 0 none).add 18) w1 fun x15 =>
  ld (Value.int .i64) ((Addr.mk b9 0 none).add 19) w1 fun x16 =>
  ld (Value.int .i64) ((Addr.mk b9 0 none).add 20) w1 fun x17 =>
  ld (Value.int .i64) ((Addr.mk b9 0 none).add 21) w1 fun x18 =>
  nw 3 #[(Value.int .i64 x10), (Value.int .i64 x11), (Value.int .i64 x12), (Value.int .i64 x13), (Value.int .i64 x14), (Value.int .i64 x15), (Value.int .i64 x16), (Value.int .i64 x17), (Value.int .i64 x18)] w1 fun b19 w2 =>
  lp (fun (next20 : Int → World → Prop) l20 w3 =>
    cnd (decide (l20 < ((⟨some ⟨b19, 0, none⟩, 9, 9⟩ : Sl).len : Int)))
      (
      ix (⟨some ⟨b19, 0, none⟩, 9, 9⟩ : Sl) l20 1 fun p22 =>
      ld (Value.int .i64) p22 w3 fun x23 =>
      cnd ((decide (x23 < 0)) || (decide (1073741824 < x23)))
        (
        K false w3
        )
        (
        next20 (IntKind.i64.wrap (l20 + 1)) w3
        )
      )
      (
      ld (Value.int .i64) ((Addr.mk b9 0 none).add 3) w3 fun x27 =>
      ld (Value.int .i64) ((Addr.mk b9 0 none).add 5) w3 fun x28 =>
      ld (Value.int .i64) ((Addr.mk b9 0 none).add 13) w3 fun x29 =>
      ld (Value.int .i64) ((Addr.mk b9 0 none).add 14) w3 fun x30 =>
      ld (Value.int .i64) ((Addr.mk b9 0 none).add 15) w3 fun x31 =>
      ld (Value.int .i64) ((Addr.mk b9 0 none).add 16) w3 fun x32 =>
      nw 82 #[(Value.int .i64 x27), (Value.int .i64 3), (Value.int .i64 x28), (Value.int .i64 3), (Value.int .i64 x29), (Value.int .i64 3), (Value.int .i64 x30), (Value.int .i64 2), (Value.int .i64 x31), (Value.int .i64 2), (Value.int .i64 x32), (Value.int .i64 5)] w3 fun b33 w4 =>
      lp (fun (next34 : Int → World → Prop) l34 w5 =>
        cnd (decide (l34 < ((⟨some ⟨b33, 0, none⟩, 6, 6⟩ : Sl).len : Int)))
          (
          ix (⟨some ⟨b33, 0, none⟩, 6, 6⟩ : Sl) l34 2 fun p36 =>
          ld (Value.int .i64) (p36.add 0) w5 fun x37 =>
          ld (Value.int .i64) (p36.add 1) w5 fun x38 =>
          nw 82 #[(Value.int .i64 0), (Value.int .i64 0)] w5 fun b39 w6 =>
          st (Addr.mk b39 0 none) [(Value.int .i64 x37), (Value.int .i64 x38)] w6 fun w7 =>
          rn Try.prog (Instr.indexAt 82 (Value.pointer (some (Addr.mk b39 0 none))) (Value.int .i64 0)) (fun a : Addr => Value.pointer (some a)) w7 fun p41 w8 =>
          ld (Value.int .i64) p41 w8 fun x42 =>
          jn (fun J43 => cnd (decide (x42 < 0))
            (
            J43 true w8
            )
            (
            rn Try.prog (Instr.indexAt 82 (Value.pointer (some (Addr.mk b39 0 none))) (Value.int .i64 0)) (fun a : Addr => Value.pointer (some a)) w8 fun p45 w9 =>
            ld (Value.int .i64) p45 w9 fun x46 =>
            rn Try.prog (Instr.indexAt 82 (Value.pointer (some (Addr.mk b39 0 none))) (Value.int .i64 1)) (fun a : Addr => Value.pointer (some a)) w9 fun p47 w10 =>
            ld (Value.int .i64) p47 w10 fun x48 =>
            J43 (decide (x48 ≤ x46)) w10
            ))
          fun c49 w11 =>
          cnd (c49)
            (
            K false w11
            )
            (
            next34 (IntKind.i64.wrap (l34 + 1)) w11
            )
          )
          (
          jn (fun (J51 : Bool → World → Prop) =>
            ld Value.string ((Addr.mk b9 0 none).add 0) w5 fun x53 =>
            callC Try.prog 53 #[(Value.string x53)] (fun (r : Bool) => (Value.bool r)) w5 fun r54 w13 =>
            cnd (!r54)
              (
              J51 (!r54) w13
              )
              (
              ld (Value.int .i64) ((Addr.mk b9 0 none).add 1) w13 fun x56 =>
              jp (fun J57 => cnd (!decide (x56 = 0))
                (
                ld (Value.int .i64) ((Addr.mk b9 0 none).add 1) w13 fun x59 =>
                J57 (!decide (x59 = 2))
                )
                (
                J57 false
                ))
              fun c60 =>
              cnd (c60)
                (
                J51 c60 w13
                )
                (
                ld (Value.int .i64) ((Addr.mk b9 0 none).add 1) w13 fun x62 =>
                jp (fun J63 => cnd (decide (x62 = 0))
                  (
                  ld (Value.int .i64) ((Addr.mk b9 0 none).add 2) w13 fun x65 =>
                  J63 (decide (0 < x65))
                  )
                  (
                  J63 false
                  ))
                fun c66 =>
                J51 c66 w13
                )
              )
          )
          fun l52 w12 =>
          cnd (l52)
            (
            K false w12
            )
            (
            ld (Value.int .i64) ((Addr.mk b9 0 none).add 10) w12 fun x68 =>
            cnd (decide (x68 = 0))
              (
              ld (Value.int .i64) ((Addr.mk b9 0 none).add 11) w12 fun x70 =>
              jp (fun J71 => cnd (decide (x70 = 0))
                (
                ld Sl.v ((Addr.mk b9 0 none).add 12) w12 fun x73 =>
                J71 (decide ((x73.len : Int) = 0))
                )
                (
                J71 false
                ))
              fun c74 =>
              K c74 w12
              )
              (
              ld Sl.v ((Addr.mk b9 0 none).add 12) w12 fun x75 =>
              jp (fun J76 => cnd (decide (1 ≤ (x75.len : Int)))
                (
                ld Sl.v ((Addr.mk b9 0 none).add 12) w12 fun x78 =>
                J76 (decide ((x78.len : Int) ≤ 20))
                )
                (
                J76 false
                ))
              fun c79 =>
              jn (fun J80 => cnd (c79)
                (
                ld Sl.v ((Addr.mk b9 0 none).add 12) w12 fun x82 =>
                callC Try.prog 47 #[(Sl.v x82), (Value.func (.func 54) #[] #[])] (fun (r : Bool) => (Value.bool r)) w12 fun r83 w14 =>
                J80 (!r83) w14
                )
                (
                J80 false w12
                ))
              fun c84 w15 =>
              K c84 w15
              )
            )
          )
      ) 0 w4
      )
  ) 0 w2
set_option maxRecDepth 100000 in
theorem D39 (p0_0 : ByteArray) (p0_1 : Int) (p0_2 : Int) (p0_3 : Int) (p0_4 : Bool) (p0_5 : Int) (p0_6 : Bool) (p0_7 : Bool) (p0_8 : Int) (p0_9 : Int) (p0_10 : Int) (p0_11 : Int) (p0_12 : Sl) (p0_13 : Int) (p0_14 : Int) (p0_15 : Int) (p0_16 : Int) (p0_17 : Bool) (p0_18 : Int) (p0_19 : Int) (p0_20 : Int) (p0_21 : Int) (w0 : World) (K : Bool → World → Prop) (h : F39 p0_0 p0_1 p0_2 p0_3 p0_4 p0_5 p0_6 p0_7 p0_8 p0_9 p0_10 p0_11 p0_12 p0_13 p0_14 p0_15 p0_16 p0_17 p0_18 p0_19 p0_20 p0_21 w0 K) : callC Try.prog 39 #[(V23 p0_0 p0_1 p0_2 p0_3 p0_4 p0_5 p0_6 p0_7 p0_8 p0_9 p0_10 p0_11 p0_12 p0_13 p0_14 p0_15 p0_16 p0_17 p0_18 p0_19 p0_20 p0_21)] (fun (r : Bool) => (Value.bool r)) w0 K := by
  unfold F39 at h
  refine calls_of_wpC Try.func39 rfl 123 rfl (by simp) ?_
  intro ρ hρ
  have e0 : ρ 0 = (V23 p0_0 p0_1 p0_2 p0_3 p0_4 p0_5 p0_6 p0_7 p0_8 p0_9 p0_10 p0_11 p0_12 p0_13 p0_14 p0_15 p0_16 p0_17 p0_18 p0_19 p0_20 p0_21) := hρ 0
  clear hρ
  refine wpC_seq ?_
  refine wpC_region ?_
  obtain ⟨b9, hb9⟩ : ∃ u, u = w0.heap.size := ⟨_, rfl⟩
  obtain ⟨w1, hw9⟩ : ∃ u, u = w0.alloc (.cells (A23 p0_0 p0_1 p0_2 p0_3 p0_4 p0_5 p0_6 p0_7 p0_8 p0_9 p0_10 p0_11 p0_12 p0_13 p0_14 p0_15 p0_16 p0_17 p0_18 p0_19 p0_20 p0_21) 24) := ⟨_, rfl⟩
  replace h := h b9 w1 hb9 hw9
  refine wpR_val (v := (Value.pointer (some (Addr.mk b9 0 none)))) (w' := w1) rfl rfl rfl ((x_box (v := (V23 p0_0 p0_1 p0_2 p0_3 p0_4 p0_5 p0_6 p0_7 p0_8 p0_9 p0_10 p0_11 p0_12 p0_13 p0_14 p0_15 p0_16 p0_17 p0_18 p0_19 p0_20 p0_21)) rfl e0).trans (by rw [hb9, hw9]; rfl)) ?_
  refine wpR_val (v := (Value.bool false)) (w' := w1) rfl rfl rfl (x_assign (v := (Value.bool false)) rfl rfl) ?_
  refine wpR_nil ?_
  refine wpC_seq ?_
  refine wpC_seq ?_
  refine wpC_cut (fun ρ => ρ 1 = (Value.pointer (some (Addr.mk b9 0 none))) ∧ True) ⟨rfl, trivial⟩ ?_
  rintro ρ ⟨e1, -⟩
  refine wpC_region ?_
  refine wpR_val (v := (Value.pointer (some ((Addr.mk b9 0 none).add 2)))) (w' := w1) rfl rfl rfl (x_fieldAddr rfl e1 FA_24_2) ?_
  obtain ⟨x10, q10, h⟩ := h
  refine wpR_val (v := (Value.int .i64 x10)) (w' := w1) rfl rfl rfl (x_load1 rfl rfl SH_3 q10) ?_
  refine wpR_val (v := (Value.pointer (some ((Addr.mk b9 0 none).add 8)))) (w' := w1) rfl rfl rfl (x_fieldAddr rfl e1 FA_24_8) ?_
  obtain ⟨x11, q11, h⟩ := h
  refine wpR_val (v := (Value.int .i64 x11)) (w' := w1) rfl rfl rfl (x_load1 rfl rfl SH_3 q11) ?_
  refine wpR_val (v := (Value.pointer (some ((Addr.mk b9 0 none).add 9)))) (w' := w1) rfl rfl rfl (x_fieldAddr rfl e1 FA_24_9) ?_
  obtain ⟨x12, q12, h⟩ := h
  refine wpR_val (v := (Value.int .i64 x12)) (w' := w1) rfl rfl rfl (x_load1 rfl rfl SH_3 q12) ?_
  refine wpR_val (v := (Value.pointer (some ((Addr.mk b9 0 none).add 10)))) (w' := w1) rfl rfl rfl (x_fieldAddr rfl e1 FA_24_10) ?_
  obtain ⟨x13, q13, h⟩ := h
  refine wpR_val (v := (Value.int .i64 x13)) (w' := w1) rfl rfl rfl (x_load1 rfl rfl SH_3 q13) ?_
  refine wpR_val (v := (Value.pointer (some ((Addr.mk b9 0 none).add 11)))) (w' := w1) rfl rfl rfl (x_fieldAddr rfl e1 FA_24_11) ?_
  obtain ⟨x14, q14, h⟩ := h
  refine wpR_val (v := (Value.int .i64 x14)) (w' := w1) rfl rfl rfl (x_load1 rfl rfl SH_3 q14) ?_
  refine wpR_val (v := (Value.pointer (some ((Addr.mk b9 0 none).add 18)))) (w' := w1) rfl rfl rfl (x_fieldAddr rfl e1 FA_24_18) ?_
  obtain ⟨x15, q15, h⟩ := h
  refine wpR_val (v := (Value.int .i64 x15)) (w' := w1) rfl rfl rfl (x_load1 rfl rfl SH_3 q15) ?_
  refine wpR_val (v := (Value.pointer (some ((Addr.mk b9 0 none).add 19)))) (w' := w1) rfl rfl rfl (x_fieldAddr rfl e1 FA_24_19) ?_
  obtain ⟨x16, q16, h⟩ := h
  refine wpR_val (v := (Value.int .i64 x16)) (w' := w1) rfl rfl rfl (x_load1 rfl rfl SH_3 q16) ?_
  refine wpR_val (v := (Value.pointer (some ((Addr.mk b9 0 none).add 20)))) (w' := w1) rfl rfl rfl (x_fieldAddr rfl e1 FA_24_20) ?_
  obtain ⟨x17, q17, h⟩ := h
  refine wpR_val (v := (Value.int .i64 x17)) (w' := w1) rfl rfl rfl (x_load1 rfl rfl SH_3 q17) ?_
  refine wpR_val (v := (Value.pointer (some ((Addr.mk b9 0 none).add 21)))) (w' := w1) rfl rfl rfl (x_fieldAddr rfl e1 FA_24_21) ?_
  obtain ⟨x18, q18, h⟩ := h
  refine wpR_val (v := (Value.int .i64 x18)) (w' := w1) rfl rfl rfl (x_load1 rfl rfl SH_3 q18) ?_
  obtain ⟨b19, hb19⟩ : ∃ u, u = w1.heap.size := ⟨_, rfl⟩
  obtain ⟨w2, hw19⟩ : ∃ u, u = w1.alloc (.cells #[(Value.int .i64 x10), (Value.int .i64 x11), (Value.int .i64 x12), (Value.int .i64 x13), (Value.int .i64 x14), (Value.int .i64 x15), (Value.int .i64 x16), (Value.int .i64 x17), (Value.int .i64 x18)] 3) := ⟨_, rfl⟩
  replace h := h b19 w2 hb19 hw19
  refine wpR_val (v := (Sl.v (⟨some ⟨b19, 0, none⟩, 9, 9⟩ : Sl))) (w' := w2) rfl rfl rfl ((x_buildSlice (qs := [(0, (Value.int .i64 x10)), (1, (Value.int .i64 x11)), (2, (Value.int .i64 x12)), (3, (Value.int .i64 x13)), (4, (Value.int .i64 x14)), (5, (Value.int .i64 x15)), (6, (Value.int .i64 x16)), (7, (Value.int .i64 x17)), (8, (Value.int .i64 x18))]) rfl (by rfl) (BS_63_9_0_1_2_3_4_5_6_7_8 x10 x11 x12 x13 x14 x15 x16 x17 x18)).trans (by rw [← hb19, ← hw19])) ?_
  refine wpR_val (v := (Value.int .i64 ((⟨some ⟨b19, 0, none⟩, 9, 9⟩ : Sl).len : Int))) (w' := w2) rfl rfl rfl (x_lenS (s := (⟨some ⟨b19, 0, none⟩, 9, 9⟩ : Sl)) rfl rfl isSliceT_63) ?_
  refine wpR_val (v := (Value.int .i64 0)) (w' := w2) rfl rfl rfl (x_move (v := (Value.int .i64 0)) rfl rfl) ?_
  refine wpR_nil ?_
  refine wpC_block ?_
  obtain ⟨I20, μ20, hI20, hr20⟩ := h
  refine wpC_loop (fun (x : Int) ρ => ρ 27 = (Value.int .i64 x) ∧ ρ 1 = (Value.pointer (some (Addr.mk b9 0 none))) ∧ ρ 25 = (Sl.v (⟨some ⟨b19, 0, none⟩, 9, 9⟩ : Sl)) ∧ ρ 26 = (Value.int .i64 ((⟨some ⟨b19, 0, none⟩, 9, 9⟩ : Sl).len : Int)) ∧ True) I20 μ20 0 ⟨rfl, e1, rfl, rfl, trivial⟩ hI20 ?_
  rintro l20 ρ w3 ⟨e27, e1, e25, e26, -⟩ h
  replace h := hr20 l20 w3 h
  clear hr20 hI20
  refine wpC_seq ?_
  refine wpC_region ?_
  refine wpR_val (v := (Value.bool (decide (l20 < ((⟨some ⟨b19, 0, none⟩, 9, 9⟩ : Sl).len : Int))))) (w' := w3) rfl rfl rfl (x_lss rfl e27 e26) ?_
  refine wpR_nil ?_
  refine wpC_seq ?_
  refine wpC_cond (b := decide (l20 < ((⟨some ⟨b19, 0, none⟩, 9, 9⟩ : Sl).len : Int))) rfl (fun hc21 => ?_) (fun hc21 => ?_)
  · replace h := h.1 hc21
    refine wpC_skip ?_
    refine wpC_seq ?_
    refine wpC_block ?_
    refine wpC_seq ?_
    refine wpC_cut (fun ρ => ρ 1 = (Value.pointer (some (Addr.mk b9 0 none))) ∧ ρ 25 = (Sl.v (⟨some ⟨b19, 0, none⟩, 9, 9⟩ : Sl)) ∧ ρ 26 = (Value.int .i64 ((⟨some ⟨b19, 0, none⟩, 9, 9⟩ : Sl).len : Int)) ∧ ρ 27 = (Value.int .i64 l20) ∧ True) ⟨e1, e25, e26, e27, trivial⟩ ?_
    rintro ρ ⟨e1, e25, e26, e27, -⟩
    refine wpC_region ?_
    obtain ⟨q22, z22, r22, h⟩ := h
    generalize hp22 : z22.add ((l20 : Int).toNat * 1) = p22 at h
    refine wpR_val (v := (Value.pointer (some p22))) (w' := w3) rfl rfl rfl ((x_indexAddr (s := (⟨some ⟨b19, 0, none⟩, 9, 9⟩ : Sl)) rfl e25 e27 ES_63 q22 r22).trans (by rw [hp22])) ?_
    obtain ⟨x23, q23, h⟩ := h
    refine wpR_val (v := (Value.int .i64 x23)) (w' := w3) rfl rfl rfl (x_load1 rfl rfl SH_3 q23) ?_
    refine wpR_val (v := (Value.int .i64 x23)) (w' := w3) rfl rfl rfl (x_assign (v := (Value.int .i64 x23)) rfl rfl) ?_
    refine wpR_nil ?_
    refine wpC_seq ?_
    refine wpC_cut (fun ρ => ρ 1 = (Value.pointer (some (Addr.mk b9 0 none))) ∧ ρ 4 = (Value.int .i64 x23) ∧ ρ 25 = (Sl.v (⟨some ⟨b19, 0, none⟩, 9, 9⟩ : Sl)) ∧ ρ 26 = (Value.int .i64 ((⟨some ⟨b19, 0, none⟩, 9, 9⟩ : Sl).len : Int)) ∧ ρ 27 = (Value.int .i64 l20) ∧ True) ⟨e1, rfl, e25, e26, e27, trivial⟩ ?_
    rintro ρ ⟨e1, e4, e25, e26, e27, -⟩
    refine wpC_region ?_
    refine wpR_val (v := (Value.int .i64 x23)) (w' := w3) rfl rfl rfl (x_move (v := (Value.int .i64 x23)) rfl e4) ?_
    refine wpR_val (v := (Value.bool (decide (x23 < 0)))) (w' := w3) rfl rfl rfl (x_lss rfl rfl rfl) ?_
    refine wpR_val (v := (Value.bool (decide (x23 < 0)))) (w' := w3) rfl rfl rfl (x_move (v := (Value.bool (decide (x23 < 0)))) rfl rfl) ?_
    refine wpR_joinJ 3 (fun (_ : Unit) ρ => ρ 36 = Value.bool ((decide (x23 < 0)) || (decide (1073741824 < x23))) ∧ ρ 1 = (Value.pointer (some (Addr.mk b9 0 none))) ∧ ρ 25 = (Sl.v (⟨some ⟨b19, 0, none⟩, 9, 9⟩ : Sl)) ∧ ρ 26 = (Value.int .i64 ((⟨some ⟨b19, 0, none⟩, 9, 9⟩ : Sl).len : Int)) ∧ ρ 27 = (Value.int .i64 l20) ∧ True) (fun _ w => w3 = w) ?_ ?_
    · clear h
      rcases Bool.eq_false_or_eq_true (decide (x23 < 0)) with hc25 | hc25
      · skip
        refine wpR_pass (wantN rfl rfl rfl hc25) rfl rfl ?_
        refine wpR_pass (wantN rfl rfl rfl hc25) rfl rfl ?_
        refine wpR_val (v := (Value.bool true)) (w' := w3) rfl rfl rfl (x_pickT (v := (Value.bool true)) rfl rfl hc25 rfl) ?_
        refine wpR_nil ?_
        exact ⟨(), ⟨(by rw [hc25]; rfl), e1, e25, e26, e27, trivial⟩, rfl⟩
      · skip
        refine wpR_val (v := (Value.int .i64 x23)) (w' := w3) (wantG rfl rfl rfl hc25) rfl rfl (x_move (v := (Value.int .i64 x23)) rfl e4) ?_
        refine wpR_val (v := (Value.bool (decide (1073741824 < x23)))) (w' := w3) (wantG rfl rfl rfl hc25) rfl rfl (x_gtr rfl rfl rfl) ?_
        refine wpR_val (v := (Value.bool (decide (1073741824 < x23)))) (w' := w3) rfl rfl rfl (x_pickF (v := (Value.bool (decide (1073741824 < x23)))) rfl rfl hc25 rfl) ?_
        refine wpR_nil ?_
        exact ⟨(), ⟨(by rw [hc25]; rfl), e1, e25, e26, e27, trivial⟩, rfl⟩
    rintro _ ρ wj ⟨e36, e1, e25, e26, e27, -⟩ rfl
    refine wpR_nil ?_
    refine wpC_cond (b := (decide (x23 < 0)) || (decide (1073741824 < x23))) e36 (fun hc26 => ?_) (fun hc26 => ?_)
    · replace h := h.1 hc26
      refine wpC_seq ?_
      refine wpC_region ?_
      refine wpR_val (v := (Value.bool false)) (w' := w3) rfl rfl rfl (x_assign (v := (Value.bool false)) rfl rfl) ?_
      refine wpR_nil ?_
      refine wpC_ret ?_
      exact ⟨.inl rfl, fun a ha => ⟨_, results_rep1 rfl ha rfl, false, rfl, h⟩⟩
    · replace h := h.2 hc26
      refine wpC_skip ?_
      refine wpC_region ?_
      refine wpR_val (v := (Value.int .i64 (IntKind.i64.wrap (l20 + 1)))) (w' := w3) rfl rfl rfl (x_add rfl e27 rfl) ?_
      refine wpR_val (v := (Value.int .i64 (IntKind.i64.wrap (l20 + 1)))) (w' := w3) rfl rfl rfl (x_move (v := (Value.int .i64 (IntKind.i64.wrap (l20 + 1)))) rfl rfl) ?_
      refine wpR_nil ?_
      exact ⟨IntKind.i64.wrap (l20 + 1), ⟨rfl, e1, e25, e26, trivial⟩, h⟩
  · replace h := h.2 hc21
    refine wpC_exit ?_
    refine wpC_seq ?_
    refine wpC_seq ?_
    refine wpC_cut (fun ρ => ρ 1 = (Value.pointer (some (Addr.mk b9 0 none))) ∧ True) ⟨e1, trivial⟩ ?_
    rintro ρ ⟨e1, -⟩
    refine wpC_region ?_
    refine wpR_val (v := (Value.pointer (some ((Addr.mk b9 0 none).add 3)))) (w' := w3) rfl rfl rfl (x_fieldAddr rfl e1 FA_24_3) ?_
    obtain ⟨x27, q27, h⟩ := h
    refine wpR_val (v := (Value.int .i64 x27)) (w' := w3) rfl rfl rfl (x_load1 rfl rfl SH_3 q27) ?_
    refine wpR_val (v := (Value.agg #[(Value.int .i64 x27), (Value.int .i64 3)])) (w' := w3) rfl rfl rfl (x_build (qs := [(0, (Value.int .i64 x27)), (1, (Value.int .i64 3))]) rfl (by rfl) (BD_82_0_1 x27 3 _)) ?_
    refine wpR_val (v := (Value.pointer (some ((Addr.mk b9 0 none).add 5)))) (w' := w3) rfl rfl rfl (x_fieldAddr rfl e1 FA_24_5) ?_
    obtain ⟨x28, q28, h⟩ := h
    refine wpR_val (v := (Value.int .i64 x28)) (w' := w3) rfl rfl rfl (x_load1 rfl rfl SH_3 q28) ?_
    refine wpR_val (v := (Value.agg #[(Value.int .i64 x28), (Value.int .i64 3)])) (w' := w3) rfl rfl rfl (x_build (qs := [(0, (Value.int .i64 x28)), (1, (Value.int .i64 3))]) rfl (by rfl) (BD_82_0_1 x28 3 _)) ?_
    refine wpR_val (v := (Value.pointer (some ((Addr.mk b9 0 none).add 13)))) (w' := w3) rfl rfl rfl (x_fieldAddr rfl e1 FA_24_13) ?_
    obtain ⟨x29, q29, h⟩ := h
    refine wpR_val (v := (Value.int .i64 x29)) (w' := w3) rfl rfl rfl (x_load1 rfl rfl SH_3 q29) ?_
    refine wpR_val (v := (Value.agg #[(Value.int .i64 x29), (Value.int .i64 3)])) (w' := w3) rfl rfl rfl (x_build (qs := [(0, (Value.int .i64 x29)), (1, (Value.int .i64 3))]) rfl (by rfl) (BD_82_0_1 x29 3 _)) ?_
    refine wpR_val (v := (Value.pointer (some ((Addr.mk b9 0 none).add 14)))) (w' := w3) rfl rfl rfl (x_fieldAddr rfl e1 FA_24_14) ?_
    obtain ⟨x30, q30, h⟩ := h
    refine wpR_val (v := (Value.int .i64 x30)) (w' := w3) rfl rfl rfl (x_load1 rfl rfl SH_3 q30) ?_
    refine wpR_val (v := (Value.agg #[(Value.int .i64 x30), (Value.int .i64 2)])) (w' := w3) rfl rfl rfl (x_build (qs := [(0, (Value.int .i64 x30)), (1, (Value.int .i64 2))]) rfl (by rfl) (BD_82_0_1 x30 2 _)) ?_
    refine wpR_val (v := (Value.pointer (some ((Addr.mk b9 0 none).add 15)))) (w' := w3) rfl rfl rfl (x_fieldAddr rfl e1 FA_24_15) ?_
    obtain ⟨x31, q31, h⟩ := h
    refine wpR_val (v := (Value.int .i64 x31)) (w' := w3) rfl rfl rfl (x_load1 rfl rfl SH_3 q31) ?_
    refine wpR_val (v := (Value.agg #[(Value.int .i64 x31), (Value.int .i64 2)])) (w' := w3) rfl rfl rfl (x_build (qs := [(0, (Value.int .i64 x31)), (1, (Value.int .i64 2))]) rfl (by rfl) (BD_82_0_1 x31 2 _)) ?_
    refine wpR_val (v := (Value.pointer (some ((Addr.mk b9 0 none).add 16)))) (w' := w3) rfl rfl rfl (x_fieldAddr rfl e1 FA_24_16) ?_
    obtain ⟨x32, q32, h⟩ := h
    refine wpR_val (v := (Value.int .i64 x32)) (w' := w3) rfl rfl rfl (x_load1 rfl rfl SH_3 q32) ?_
    refine wpR_val (v := (Value.agg #[(Value.int .i64 x32), (Value.int .i64 5)])) (w' := w3) rfl rfl rfl (x_build (qs := [(0, (Value.int .i64 x32)), (1, (Value.int .i64 5))]) rfl (by rfl) (BD_82_0_1 x32 5 _)) ?_
    obtain ⟨b33, hb33⟩ : ∃ u, u = w3.heap.size := ⟨_, rfl⟩
    obtain ⟨w4, hw33⟩ : ∃ u, u = w3.alloc (.cells #[(Value.int .i64 x27), (Value.int .i64 3), (Value.int .i64 x28), (Value.int .i64 3), (Value.int .i64 x29), (Value.int .i64 3), (Value.int .i64 x30), (Value.int .i64 2), (Value.int .i64 x31), (Value.int .i64 2), (Value.int .i64 x32), (Value.int .i64 5)] 82) := ⟨_, rfl⟩
    replace h := h b33 w4 hb33 hw33
    refine wpR_val (v := (Sl.v (⟨some ⟨b33, 0, none⟩, 6, 6⟩ : Sl))) (w' := w4) rfl rfl rfl ((x_buildSlice (qs := [(0, (Value.agg #[(Value.int .i64 x27), (Value.int .i64 3)])), (1, (Value.agg #[(Value.int .i64 x28), (Value.int .i64 3)])), (2, (Value.agg #[(Value.int .i64 x29), (Value.int .i64 3)])), (3, (Value.agg #[(Value.int .i64 x30), (Value.int .i64 2)])), (4, (Value.agg #[(Value.int .i64 x31), (Value.int .i64 2)])), (5, (Value.agg #[(Value.int .i64 x32), (Value.int .i64 5)]))]) rfl (by rfl) (BS_83_6_0_1_2_3_4_5 x27 3 x28 3 x29 3 x30 2 x31 2 x32 5)).trans (by rw [← hb33, ← hw33])) ?_
    refine wpR_val (v := (Value.int .i64 ((⟨some ⟨b33, 0, none⟩, 6, 6⟩ : Sl).len : Int))) (w' := w4) rfl rfl rfl (x_lenS (s := (⟨some ⟨b33, 0, none⟩, 6, 6⟩ : Sl)) rfl rfl isSliceT_83) ?_
    refine wpR_val (v := (Value.int .i64 0)) (w' := w4) rfl rfl rfl (x_move (v := (Value.int .i64 0)) rfl rfl) ?_
    refine wpR_nil ?_
    refine wpC_block ?_
    obtain ⟨I34, μ34, hI34, hr34⟩ := h
    refine wpC_loop (fun (x : Int) ρ => ρ 58 = (Value.int .i64 x) ∧ ρ 1 = (Value.pointer (some (Addr.mk b9 0 none))) ∧ ρ 56 = (Sl.v (⟨some ⟨b33, 0, none⟩, 6, 6⟩ : Sl)) ∧ ρ 57 = (Value.int .i64 ((⟨some ⟨b33, 0, none⟩, 6, 6⟩ : Sl).len : Int)) ∧ True) I34 μ34 0 ⟨rfl, e1, rfl, rfl, trivial⟩ hI34 ?_
    rintro l34 ρ w5 ⟨e58, e1, e56, e57, -⟩ h
    replace h := hr34 l34 w5 h
    clear hr34 hI34
    refine wpC_seq ?_
    refine wpC_region ?_
    refine wpR_val (v := (Value.bool (decide (l34 < ((⟨some ⟨b33, 0, none⟩, 6, 6⟩ : Sl).len : Int))))) (w' := w5) rfl rfl rfl (x_lss rfl e58 e57) ?_
    refine wpR_nil ?_
    refine wpC_seq ?_
    refine wpC_cond (b := decide (l34 < ((⟨some ⟨b33, 0, none⟩, 6, 6⟩ : Sl).len : Int))) rfl (fun hc35 => ?_) (fun hc35 => ?_)
    · replace h := h.1 hc35
      refine wpC_skip ?_
      refine wpC_seq ?_
      refine wpC_block ?_
      refine wpC_seq ?_
      refine wpC_cut (fun ρ => ρ 1 = (Value.pointer (some (Addr.mk b9 0 none))) ∧ ρ 56 = (Sl.v (⟨some ⟨b33, 0, none⟩, 6, 6⟩ : Sl)) ∧ ρ 57 = (Value.int .i64 ((⟨some ⟨b33, 0, none⟩, 6, 6⟩ : Sl).len : Int)) ∧ ρ 58 = (Value.int .i64 l34) ∧ True) ⟨e1, e56, e57, e58, trivial⟩ ?_
      rintro ρ ⟨e1, e56, e57, e58, -⟩
      refine wpC_region ?_
      obtain ⟨q36, z36, r36, h⟩ := h
      generalize hp36 : z36.add ((l34 : Int).toNat * 2) = p36 at h
      refine wpR_val (v := (Value.pointer (some p36))) (w' := w5) rfl rfl rfl ((x_indexAddr (s := (⟨some ⟨b33, 0, none⟩, 6, 6⟩ : Sl)) rfl e56 e58 ES_83 q36 r36).trans (by rw [hp36])) ?_
      obtain ⟨x37, q37, x38, q38, h⟩ := h
      refine wpR_val (v := (Value.agg #[(Value.int .i64 x37), (Value.int .i64 x38)])) (w' := w5) rfl rfl rfl (x_loadN [(Value.int .i64 x37), (Value.int .i64 x38)] rfl rfl SH_82 (CellsAt.out (CellsAt.cons q37 (CellsAt.cons q38 CellsAt.nil)))) ?_
      obtain ⟨b39, hb39⟩ : ∃ u, u = w5.heap.size := ⟨_, rfl⟩
      obtain ⟨w6, hw39⟩ : ∃ u, u = w5.alloc (.cells #[(Value.int .i64 0), (Value.int .i64 0)] 82) := ⟨_, rfl⟩
      replace h := h b39 w6 hb39 hw39
      refine wpR_val (v := (Value.pointer (some (Addr.mk b39 0 none)))) (w' := w6) rfl rfl rfl ((x_alloc rfl ZV_82).trans (by rw [hb39, hw39]; rfl)) ?_
      obtain ⟨q40, h⟩ := h
      obtain ⟨w7, hw40⟩ : ∃ u, u = setAll w6 (Addr.mk b39 0 none) [(Value.int .i64 x37), (Value.int .i64 x38)] 0 := ⟨_, rfl⟩
      replace h := h w7 hw40
      refine wpR_skp (w' := w7) rfl rfl ((x_store (v := (Value.agg #[(Value.int .i64 x37), (Value.int .i64 x38)])) rfl rfl rfl SZ_82 (ones (by rfl)) q40).trans (by rw [hw40]; rfl)) ?_
      refine wpR_nil ?_
      refine wpC_seq ?_
      refine wpC_cut (fun ρ => ρ 1 = (Value.pointer (some (Addr.mk b9 0 none))) ∧ ρ 6 = (Value.pointer (some (Addr.mk b39 0 none))) ∧ ρ 56 = (Sl.v (⟨some ⟨b33, 0, none⟩, 6, 6⟩ : Sl)) ∧ ρ 57 = (Value.int .i64 ((⟨some ⟨b33, 0, none⟩, 6, 6⟩ : Sl).len : Int)) ∧ ρ 58 = (Value.int .i64 l34) ∧ True) ⟨e1, rfl, e56, e57, e58, trivial⟩ ?_
      rintro ρ ⟨e1, e6, e56, e57, e58, -⟩
      refine wpC_region ?_
      obtain ⟨p41, w8, q41, h⟩ := h
      refine wpR_val (v := (Value.pointer (some p41))) (w' := w8) rfl rfl rfl (x_indexAt rfl e6 rfl q41) ?_
      obtain ⟨x42, q42, h⟩ := h
      refine wpR_val (v := (Value.int .i64 x42)) (w' := w8) rfl rfl rfl (x_load1 rfl rfl SH_3 q42) ?_
      refine wpR_val (v := (Value.bool (decide (x42 < 0)))) (w' := w8) rfl rfl rfl (x_lss rfl rfl rfl) ?_
      refine wpR_val (v := (Value.bool (decide (x42 < 0)))) (w' := w8) rfl rfl rfl (x_move (v := (Value.bool (decide (x42 < 0)))) rfl rfl) ?_
      obtain ⟨J43, h, hk⟩ := h
      refine wpR_joinJ 6 (fun x ρ => ρ 71 = Value.bool x ∧ ρ 1 = (Value.pointer (some (Addr.mk b9 0 none))) ∧ ρ 56 = (Sl.v (⟨some ⟨b33, 0, none⟩, 6, 6⟩ : Sl)) ∧ ρ 57 = (Value.int .i64 ((⟨some ⟨b33, 0, none⟩, 6, 6⟩ : Sl).len : Int)) ∧ ρ 58 = (Value.int .i64 l34) ∧ True) (J43) ?_ ?_
      · clear hk
        rcases Bool.eq_false_or_eq_true (decide (x42 < 0)) with hc44 | hc44
        · replace h := h.1 hc44
          refine wpR_pass (wantN rfl rfl rfl hc44) rfl rfl ?_
          refine wpR_pass (wantN rfl rfl rfl hc44) rfl rfl ?_
          refine wpR_pass (wantN rfl rfl rfl hc44) rfl rfl ?_
          refine wpR_pass (wantN rfl rfl rfl hc44) rfl rfl ?_
          refine wpR_pass (wantN rfl rfl rfl hc44) rfl rfl ?_
          refine wpR_val (v := (Value.bool true)) (w' := w8) rfl rfl rfl (x_pickT (v := (Value.bool true)) rfl rfl hc44 rfl) ?_
          refine wpR_nil ?_
          exact ⟨true, ⟨rfl, e1, e56, e57, e58, trivial⟩, h⟩
        · replace h := h.2 hc44
          obtain ⟨p45, w9, q45, h⟩ := h
          refine wpR_val (v := (Value.pointer (some p45))) (w' := w9) (wantG rfl rfl rfl hc44) rfl rfl (x_indexAt rfl e6 rfl q45) ?_
          obtain ⟨x46, q46, h⟩ := h
          refine wpR_val (v := (Value.int .i64 x46)) (w' := w9) (wantG rfl rfl rfl hc44) rfl rfl (x_load1 rfl rfl SH_3 q46) ?_
          obtain ⟨p47, w10, q47, h⟩ := h
          refine wpR_val (v := (Value.pointer (some p47))) (w' := w10) (wantG rfl rfl rfl hc44) rfl rfl (x_indexAt rfl e6 rfl q47) ?_
          obtain ⟨x48, q48, h⟩ := h
          refine wpR_val (v := (Value.int .i64 x48)) (w' := w10) (wantG rfl rfl rfl hc44) rfl rfl (x_load1 rfl rfl SH_3 q48) ?_
          refine wpR_val (v := (Value.bool (decide (x48 ≤ x46)))) (w' := w10) (wantG rfl rfl rfl hc44) rfl rfl (x_geq rfl rfl rfl) ?_
          refine wpR_val (v := (Value.bool (decide (x48 ≤ x46)))) (w' := w10) rfl rfl rfl (x_pickF (v := (Value.bool (decide (x48 ≤ x46)))) rfl rfl hc44 rfl) ?_
          refine wpR_nil ?_
          exact ⟨decide (x48 ≤ x46), ⟨rfl, e1, e56, e57, e58, trivial⟩, h⟩
      clear h
      rintro c49 ρ w11 ⟨e71, e1, e56, e57, e58, -⟩ h
      replace h := hk c49 w11 h
      clear hk
      refine wpR_nil ?_
      refine wpC_cond (b := c49) e71 (fun hc50 => ?_) (fun hc50 => ?_)
      · replace h := h.1 hc50
        refine wpC_seq ?_
        refine wpC_region ?_
        refine wpR_val (v := (Value.bool false)) (w' := w11) rfl rfl rfl (x_assign (v := (Value.bool false)) rfl rfl) ?_
        refine wpR_nil ?_
        refine wpC_ret ?_
        exact ⟨.inl rfl, fun a ha => ⟨_, results_rep1 rfl ha rfl, false, rfl, h⟩⟩
      · replace h := h.2 hc50
        refine wpC_skip ?_
        refine wpC_region ?_
        refine wpR_val (v := (Value.int .i64 (IntKind.i64.wrap (l34 + 1)))) (w' := w11) rfl rfl rfl (x_add rfl e58 rfl) ?_
        refine wpR_val (v := (Value.int .i64 (IntKind.i64.wrap (l34 + 1)))) (w' := w11) rfl rfl rfl (x_move (v := (Value.int .i64 (IntKind.i64.wrap (l34 + 1)))) rfl rfl) ?_
        refine wpR_nil ?_
        exact ⟨IntKind.i64.wrap (l34 + 1), ⟨rfl, e1, e56, e57, trivial⟩, h⟩
    · replace h := h.2 hc35
      refine wpC_exit ?_
      refine wpC_seq ?_
      refine wpC_block ?_
      obtain ⟨J51, h, hk⟩ := h
      refine wpC_seqJ (fun (x : Bool) ρ => ρ 73 = (Value.bool x) ∧ ρ 1 = (Value.pointer (some (Addr.mk b9 0 none))) ∧ True) J51 ?_ ?_
      · clear hk
        refine wpC_seq ?_
        refine wpC_cut (fun ρ => ρ 1 = (Value.pointer (some (Addr.mk b9 0 none))) ∧ True) ⟨e1, trivial⟩ ?_
        rintro ρ ⟨e1, -⟩
        refine wpC_region ?_
        refine wpR_val (v := (Value.pointer (some ((Addr.mk b9 0 none).add 0)))) (w' := w5) rfl rfl rfl (x_fieldAddr rfl e1 FA_24_0) ?_
        obtain ⟨x53, q53, h⟩ := h
        refine wpR_val (v := (Value.string x53)) (w' := w5) rfl rfl rfl (x_load1 rfl rfl SH_9 q53) ?_
        refine wpR_enter rfl rfl rfl (x_call (vs := [(Value.string x53)]) rfl rfl (mapl_cons rfl mapl_nil) Try.func53 NN_53 NB_53) (Calls.mono h ?_)
        rintro _ w13 ⟨r54, rfl, h⟩
        refine ⟨_, rfl, ?_⟩
        refine wpR_val (v := (Value.bool (!r54))) (w' := w13) rfl rfl rfl (x_not rfl rfl) ?_
        refine wpR_val (v := (Value.bool (!r54))) (w' := w13) rfl rfl rfl (x_assign (v := (Value.bool (!r54))) rfl rfl) ?_
        refine wpR_nil ?_
        refine wpC_cond (b := !r54) rfl (fun hc55 => ?_) (fun hc55 => ?_)
        · replace h := h.1 hc55
          refine wpC_skip ?_
          exact ⟨!r54, ⟨rfl, e1, trivial⟩, h⟩
        · replace h := h.2 hc55
          refine wpC_seq ?_
          refine wpC_cut (fun ρ => ρ 1 = (Value.pointer (some (Addr.mk b9 0 none))) ∧ True) ⟨e1, trivial⟩ ?_
          rintro ρ ⟨e1, -⟩
          refine wpC_region ?_
          refine wpR_val (v := (Value.pointer (some ((Addr.mk b9 0 none).add 1)))) (w' := w13) rfl rfl rfl (x_fieldAddr rfl e1 FA_24_1) ?_
          obtain ⟨x56, q56, h⟩ := h
          refine wpR_val (v := (Value.int .i64 x56)) (w' := w13) rfl rfl rfl (x_load1 rfl rfl SH_3 q56) ?_
          refine wpR_val (v := (Value.bool (!decide (x56 = 0)))) (w' := w13) rfl rfl rfl (x_neq rfl rfl rfl) ?_
          refine wpR_val (v := (Value.bool (!decide (x56 = 0)))) (w' := w13) rfl rfl rfl (x_move (v := (Value.bool (!decide (x56 = 0)))) rfl rfl) ?_
          obtain ⟨J57, h, hk⟩ := h
          refine wpR_joinJ 4 (fun x ρ => ρ 85 = Value.bool x ∧ ρ 1 = (Value.pointer (some (Addr.mk b9 0 none))) ∧ True) (fun x w => J57 x ∧ w13 = w) ?_ ?_
          · clear hk
            rcases Bool.eq_false_or_eq_true (!decide (x56 = 0)) with hc58 | hc58
            · replace h := h.1 hc58
              refine wpR_val (v := (Value.pointer (some ((Addr.mk b9 0 none).add 1)))) (w' := w13) (wantG rfl rfl rfl hc58) rfl rfl (x_fieldAddr rfl e1 FA_24_1) ?_
              obtain ⟨x59, q59, h⟩ := h
              refine wpR_val (v := (Value.int .i64 x59)) (w' := w13) (wantG rfl rfl rfl hc58) rfl rfl (x_load1 rfl rfl SH_3 q59) ?_
              refine wpR_val (v := (Value.bool (!decide (x59 = 2)))) (w' := w13) (wantG rfl rfl rfl hc58) rfl rfl (x_neq rfl rfl rfl) ?_
              refine wpR_val (v := (Value.bool (!decide (x59 = 2)))) (w' := w13) rfl rfl rfl (x_pickT (v := (Value.bool (!decide (x59 = 2)))) rfl rfl hc58 rfl) ?_
              refine wpR_nil ?_
              exact ⟨!decide (x59 = 2), ⟨rfl, e1, trivial⟩, h, rfl⟩
            · replace h := h.2 hc58
              refine wpR_pass (wantN rfl rfl rfl hc58) rfl rfl ?_
              refine wpR_pass (wantN rfl rfl rfl hc58) rfl rfl ?_
              refine wpR_pass (wantN rfl rfl rfl hc58) rfl rfl ?_
              refine wpR_val (v := (Value.bool false)) (w' := w13) rfl rfl rfl (x_pickF (v := (Value.bool false)) rfl rfl hc58 rfl) ?_
              refine wpR_nil ?_
              exact ⟨false, ⟨rfl, e1, trivial⟩, h, rfl⟩
          clear h
          rintro c60 ρ wj ⟨e85, e1, -⟩ ⟨h, rfl⟩
          replace h := hk c60 h
          clear hk
          refine wpR_val (v := (Value.bool c60)) (w' := w13) rfl rfl rfl (x_assign (v := (Value.bool c60)) rfl e85) ?_
          refine wpR_nil ?_
          refine wpC_cond (b := c60) rfl (fun hc61 => ?_) (fun hc61 => ?_)
          · replace h := h.1 hc61
            refine wpC_skip ?_
            exact ⟨c60, ⟨rfl, e1, trivial⟩, h⟩
          · replace h := h.2 hc61
            refine wpC_cut (fun ρ => ρ 1 = (Value.pointer (some (Addr.mk b9 0 none))) ∧ True) ⟨e1, trivial⟩ ?_
            rintro ρ ⟨e1, -⟩
            refine wpC_region ?_
            refine wpR_val (v := (Value.pointer (some ((Addr.mk b9 0 none).add 1)))) (w' := w13) rfl rfl rfl (x_fieldAddr rfl e1 FA_24_1) ?_
            obtain ⟨x62, q62, h⟩ := h
            refine wpR_val (v := (Value.int .i64 x62)) (w' := w13) rfl rfl rfl (x_load1 rfl rfl SH_3 q62) ?_
            refine wpR_val (v := (Value.bool (decide (x62 = 0)))) (w' := w13) rfl rfl rfl (x_eql rfl rfl rfl) ?_
            refine wpR_val (v := (Value.bool (decide (x62 = 0)))) (w' := w13) rfl rfl rfl (x_move (v := (Value.bool (decide (x62 = 0)))) rfl rfl) ?_
            obtain ⟨J63, h, hk⟩ := h
            refine wpR_joinJ 4 (fun x ρ => ρ 93 = Value.bool x ∧ ρ 1 = (Value.pointer (some (Addr.mk b9 0 none))) ∧ True) (fun x w => J63 x ∧ w13 = w) ?_ ?_
            · clear hk
              rcases Bool.eq_false_or_eq_true (decide (x62 = 0)) with hc64 | hc64
              · replace h := h.1 hc64
                refine wpR_val (v := (Value.pointer (some ((Addr.mk b9 0 none).add 2)))) (w' := w13) (wantG rfl rfl rfl hc64) rfl rfl (x_fieldAddr rfl e1 FA_24_2) ?_
                obtain ⟨x65, q65, h⟩ := h
                refine wpR_val (v := (Value.int .i64 x65)) (w' := w13) (wantG rfl rfl rfl hc64) rfl rfl (x_load1 rfl rfl SH_3 q65) ?_
                refine wpR_val (v := (Value.bool (decide (0 < x65)))) (w' := w13) (wantG rfl rfl rfl hc64) rfl rfl (x_gtr rfl rfl rfl) ?_
                refine wpR_val (v := (Value.bool (decide (0 < x65)))) (w' := w13) rfl rfl rfl (x_pickT (v := (Value.bool (decide (0 < x65)))) rfl rfl hc64 rfl) ?_
                refine wpR_nil ?_
                exact ⟨decide (0 < x65), ⟨rfl, e1, trivial⟩, h, rfl⟩
              · replace h := h.2 hc64
                refine wpR_pass (wantN rfl rfl rfl hc64) rfl rfl ?_
                refine wpR_pass (wantN rfl rfl rfl hc64) rfl rfl ?_
                refine wpR_pass (wantN rfl rfl rfl hc64) rfl rfl ?_
                refine wpR_val (v := (Value.bool false)) (w' := w13) rfl rfl rfl (x_pickF (v := (Value.bool false)) rfl rfl hc64 rfl) ?_
                refine wpR_nil ?_
                exact ⟨false, ⟨rfl, e1, trivial⟩, h, rfl⟩
            clear h
            rintro c66 ρ wj ⟨e93, e1, -⟩ ⟨h, rfl⟩
            replace h := hk c66 h
            clear hk
            refine wpR_val (v := (Value.bool c66)) (w' := w13) rfl rfl rfl (x_assign (v := (Value.bool c66)) rfl e93) ?_
            refine wpR_nil ?_
            exact ⟨c66, ⟨rfl, e1, trivial⟩, h⟩
      clear h
      rintro l52 ρ w12 ⟨e73, e1, -⟩ h
      replace h := hk l52 w12 h
      clear hk
      refine wpC_cond (b := l52) e73 (fun hc67 => ?_) (fun hc67 => ?_)
      · replace h := h.1 hc67
        refine wpC_seq ?_
        refine wpC_region ?_
        refine wpR_val (v := (Value.bool false)) (w' := w12) rfl rfl rfl (x_assign (v := (Value.bool false)) rfl rfl) ?_
        refine wpR_nil ?_
        refine wpC_ret ?_
        exact ⟨.inl rfl, fun a ha => ⟨_, results_rep1 rfl ha rfl, false, rfl, h⟩⟩
      · replace h := h.2 hc67
        refine wpC_seq ?_
        refine wpC_region ?_
        refine wpR_val (v := (Value.pointer (some ((Addr.mk b9 0 none).add 10)))) (w' := w12) rfl rfl rfl (x_fieldAddr rfl e1 FA_24_10) ?_
        obtain ⟨x68, q68, h⟩ := h
        refine wpR_val (v := (Value.int .i64 x68)) (w' := w12) rfl rfl rfl (x_load1 rfl rfl SH_3 q68) ?_
        refine wpR_val (v := (Value.bool (decide (x68 = 0)))) (w' := w12) rfl rfl rfl (x_eql rfl rfl rfl) ?_
        refine wpR_val (v := (Value.bool (decide (x68 = 0)))) (w' := w12) rfl rfl rfl (x_assign (v := (Value.bool (decide (x68 = 0)))) rfl rfl) ?_
        refine wpR_nil ?_
        refine wpC_cond (b := decide (x68 = 0)) rfl (fun hc69 => ?_) (fun hc69 => ?_)
        · replace h := h.1 hc69
          refine wpC_seq ?_
          refine wpC_cut (fun ρ => ρ 1 = (Value.pointer (some (Addr.mk b9 0 none))) ∧ True) ⟨e1, trivial⟩ ?_
          rintro ρ ⟨e1, -⟩
          refine wpC_region ?_
          refine wpR_val (v := (Value.pointer (some ((Addr.mk b9 0 none).add 11)))) (w' := w12) rfl rfl rfl (x_fieldAddr rfl e1 FA_24_11) ?_
          obtain ⟨x70, q70, h⟩ := h
          refine wpR_val (v := (Value.int .i64 x70)) (w' := w12) rfl rfl rfl (x_load1 rfl rfl SH_3 q70) ?_
          refine wpR_val (v := (Value.bool (decide (x70 = 0)))) (w' := w12) rfl rfl rfl (x_eql rfl rfl rfl) ?_
          refine wpR_val (v := (Value.bool (decide (x70 = 0)))) (w' := w12) rfl rfl rfl (x_move (v := (Value.bool (decide (x70 = 0)))) rfl rfl) ?_
          obtain ⟨J71, h, hk⟩ := h
          refine wpR_joinJ 5 (fun x ρ => ρ 106 = Value.bool x ∧ True) (fun x w => J71 x ∧ w12 = w) ?_ ?_
          · clear hk
            rcases Bool.eq_false_or_eq_true (decide (x70 = 0)) with hc72 | hc72
            · replace h := h.1 hc72
              refine wpR_val (v := (Value.pointer (some ((Addr.mk b9 0 none).add 12)))) (w' := w12) (wantG rfl rfl rfl hc72) rfl rfl (x_fieldAddr rfl e1 FA_24_12) ?_
              obtain ⟨x73, q73, h⟩ := h
              refine wpR_val (v := (Sl.v x73)) (w' := w12) (wantG rfl rfl rfl hc72) rfl rfl (x_load1 rfl rfl SH_22 q73) ?_
              refine wpR_val (v := (Value.int .i64 (x73.len : Int))) (w' := w12) (wantG rfl rfl rfl hc72) rfl rfl (x_lenS (s := x73) rfl rfl isSliceT_22) ?_
              refine wpR_val (v := (Value.bool (decide ((x73.len : Int) = 0)))) (w' := w12) (wantG rfl rfl rfl hc72) rfl rfl (x_eql rfl rfl rfl) ?_
              refine wpR_val (v := (Value.bool (decide ((x73.len : Int) = 0)))) (w' := w12) rfl rfl rfl (x_pickT (v := (Value.bool (decide ((x73.len : Int) = 0)))) rfl rfl hc72 rfl) ?_
              refine wpR_nil ?_
              exact ⟨decide ((x73.len : Int) = 0), ⟨rfl, trivial⟩, h, rfl⟩
            · replace h := h.2 hc72
              refine wpR_pass (wantN rfl rfl rfl hc72) rfl rfl ?_
              refine wpR_pass (wantN rfl rfl rfl hc72) rfl rfl ?_
              refine wpR_pass (wantN rfl rfl rfl hc72) rfl rfl ?_
              refine wpR_pass (wantN rfl rfl rfl hc72) rfl rfl ?_
              refine wpR_val (v := (Value.bool false)) (w' := w12) rfl rfl rfl (x_pickF (v := (Value.bool false)) rfl rfl hc72 rfl) ?_
              refine wpR_nil ?_
              exact ⟨false, ⟨rfl, trivial⟩, h, rfl⟩
          clear h
          rintro c74 ρ wj ⟨e106, -⟩ ⟨h, rfl⟩
          replace h := hk c74 h
          clear hk
          refine wpR_val (v := (Value.bool c74)) (w' := w12) rfl rfl rfl (x_assign (v := (Value.bool c74)) rfl e106) ?_
          refine wpR_nil ?_
          refine wpC_ret ?_
          exact ⟨.inl rfl, fun a ha => ⟨_, results_rep1 rfl ha rfl, c74, rfl, h⟩⟩
        · replace h := h.2 hc69
          refine wpC_skip ?_
          refine wpC_seq ?_
          refine wpC_cut (fun ρ => ρ 1 = (Value.pointer (some (Addr.mk b9 0 none))) ∧ True) ⟨e1, trivial⟩ ?_
          rintro ρ ⟨e1, -⟩
          refine wpC_region ?_
          refine wpR_val (v := (Value.pointer (some ((Addr.mk b9 0 none).add 12)))) (w' := w12) rfl rfl rfl (x_fieldAddr rfl e1 FA_24_12) ?_
          obtain ⟨x75, q75, h⟩ := h
          refine wpR_val (v := (Sl.v x75)) (w' := w12) rfl rfl rfl (x_load1 rfl rfl SH_22 q75) ?_
          refine wpR_val (v := (Value.int .i64 (x75.len : Int))) (w' := w12) rfl rfl rfl (x_lenS (s := x75) rfl rfl isSliceT_22) ?_
          refine wpR_val (v := (Value.bool (decide (1 ≤ (x75.len : Int))))) (w' := w12) rfl rfl rfl (x_geq rfl rfl rfl) ?_
          refine wpR_val (v := (Value.bool (decide (1 ≤ (x75.len : Int))))) (w' := w12) rfl rfl rfl (x_move (v := (Value.bool (decide (1 ≤ (x75.len : Int))))) rfl rfl) ?_
          obtain ⟨J76, h, hk⟩ := h
          refine wpR_joinJ 5 (fun x ρ => ρ 116 = Value.bool x ∧ ρ 1 = (Value.pointer (some (Addr.mk b9 0 none))) ∧ True) (fun x w => J76 x ∧ w12 = w) ?_ ?_
          · clear hk
            rcases Bool.eq_false_or_eq_true (decide (1 ≤ (x75.len : Int))) with hc77 | hc77
            · replace h := h.1 hc77
              refine wpR_val (v := (Value.pointer (some ((Addr.mk b9 0 none).add 12)))) (w' := w12) (wantG rfl rfl rfl hc77) rfl rfl (x_fieldAddr rfl e1 FA_24_12) ?_
              obtain ⟨x78, q78, h⟩ := h
              refine wpR_val (v := (Sl.v x78)) (w' := w12) (wantG rfl rfl rfl hc77) rfl rfl (x_load1 rfl rfl SH_22 q78) ?_
              refine wpR_val (v := (Value.int .i64 (x78.len : Int))) (w' := w12) (wantG rfl rfl rfl hc77) rfl rfl (x_lenS (s := x78) rfl rfl isSliceT_22) ?_
              refine wpR_val (v := (Value.bool (decide ((x78.len : Int) ≤ 20)))) (w' := w12) (wantG rfl rfl rfl hc77) rfl rfl (x_leq rfl rfl rfl) ?_
              refine wpR_val (v := (Value.bool (decide ((x78.len : Int) ≤ 20)))) (w' := w12) rfl rfl rfl (x_pickT (v := (Value.bool (decide ((x78.len : Int) ≤ 20)))) rfl rfl hc77 rfl) ?_
              refine wpR_nil ?_
              exact ⟨decide ((x78.len : Int) ≤ 20), ⟨rfl, e1, trivial⟩, h, rfl⟩
            · replace h := h.2 hc77
              refine wpR_pass (wantN rfl rfl rfl hc77) rfl rfl ?_
              refine wpR_pass (wantN rfl rfl rfl hc77) rfl rfl ?_
              refine wpR_pass (wantN rfl rfl rfl hc77) rfl rfl ?_
              refine wpR_pass (wantN rfl rfl rfl hc77) rfl rfl ?_
              refine wpR_val (v := (Value.bool false)) (w' := w12) rfl rfl rfl (x_pickF (v := (Value.bool false)) rfl rfl hc77 rfl) ?_
              refine wpR_nil ?_
              exact ⟨false, ⟨rfl, e1, trivial⟩, h, rfl⟩
          clear h
          rintro c79 ρ wj ⟨e116, e1, -⟩ ⟨h, rfl⟩
          replace h := hk c79 h
          clear hk
          refine wpR_val (v := (Value.bool c79)) (w' := w12) rfl rfl rfl (x_move (v := (Value.bool c79)) rfl e116) ?_
          obtain ⟨J80, h, hk⟩ := h
          refine wpR_joinJ 5 (fun x ρ => ρ 122 = Value.bool x ∧ True) (J80) ?_ ?_
          · clear hk
            rcases Bool.eq_false_or_eq_true (c79) with hc81 | hc81
            · replace h := h.1 hc81
              refine wpR_val (v := (Value.pointer (some ((Addr.mk b9 0 none).add 12)))) (w' := w12) (wantG rfl rfl rfl hc81) rfl rfl (x_fieldAddr rfl e1 FA_24_12) ?_
              obtain ⟨x82, q82, h⟩ := h
              refine wpR_val (v := (Sl.v x82)) (w' := w12) (wantG rfl rfl rfl hc81) rfl rfl (x_load1 rfl rfl SH_22 q82) ?_
              refine wpR_enter (wantG rfl rfl rfl hc81) rfl rfl (x_call (vs := [(Sl.v x82), (Value.func (.func 54) #[] #[])]) rfl rfl (mapl_cons rfl (mapl_cons rfl mapl_nil)) Try.func47 NN_47 NB_47) (Calls.mono h ?_)
              rintro _ w14 ⟨r83, rfl, h⟩
              refine ⟨_, rfl, ?_⟩
              refine wpR_val (v := (Value.bool (!r83))) (w' := w14) (wantG rfl rfl rfl hc81) rfl rfl (x_not rfl rfl) ?_
              refine wpR_val (v := (Value.bool (!r83))) (w' := w14) rfl rfl rfl (x_pickT (v := (Value.bool (!r83))) rfl rfl hc81 rfl) ?_
              refine wpR_nil ?_
              exact ⟨!r83, ⟨rfl, trivial⟩, h⟩
            · replace h := h.2 hc81
              refine wpR_pass (wantN rfl rfl rfl hc81) rfl rfl ?_
              refine wpR_pass (wantN rfl rfl rfl hc81) rfl rfl ?_
              refine wpR_pass (wantN rfl rfl rfl hc81) rfl rfl ?_
              refine wpR_pass (wantN rfl rfl rfl hc81) rfl rfl ?_
              refine wpR_val (v := (Value.bool false)) (w' := w12) rfl rfl rfl (x_pickF (v := (Value.bool false)) rfl rfl hc81 rfl) ?_
              refine wpR_nil ?_
              exact ⟨false, ⟨rfl, trivial⟩, h⟩
          clear h
          rintro c84 ρ w15 ⟨e122, -⟩ h
          replace h := hk c84 w15 h
          clear hk
          refine wpR_val (v := (Value.bool c84)) (w' := w15) rfl rfl rfl (x_assign (v := (Value.bool c84)) rfl e122) ?_
          refine wpR_nil ?_
          refine wpC_ret ?_
          exact ⟨.inl rfl, fun a ha => ⟨_, results_rep1 rfl ha rfl, c84, rfl, h⟩⟩

/-- profile.within -/
def F40 (p0 : Int) (p1 : Int) (p2 : Int) (w0 : World) (K : Bool → World → Prop) : Prop :=
  K ((decide (p1 ≤ p0)) && (decide (p0 ≤ p2))) w0
set_option maxRecDepth 100000 in
theorem D40 (p0 : Int) (p1 : Int) (p2 : Int) (w0 : World) (K : Bool → World → Prop) (h : F40 p0 p1 p2 w0 K) : callC Try.prog 40 #[(Value.int .i64 p0), (Value.int .i64 p1), (Value.int .i64 p2)] (fun (r : Bool) => (Value.bool r)) w0 K := by
  unfold F40 at h
  refine calls_of_wpC Try.func40 rfl 15 rfl (by simp) ?_
  intro ρ hρ
  have e0 : ρ 0 = (Value.int .i64 p0) := hρ 0
  have e1 : ρ 1 = (Value.int .i64 p1) := hρ 1
  have e2 : ρ 2 = (Value.int .i64 p2) := hρ 2
  clear hρ
  refine wpC_seq ?_
  refine wpC_region ?_
  refine wpR_val (v := (Value.bool false)) (w' := w0) rfl rfl rfl (x_assign (v := (Value.bool false)) rfl rfl) ?_
  refine wpR_nil ?_
  refine wpC_seq ?_
  refine wpC_cut (fun ρ => ρ 0 = (Value.int .i64 p0) ∧ ρ 1 = (Value.int .i64 p1) ∧ ρ 2 = (Value.int .i64 p2) ∧ True) ⟨e0, e1, e2, trivial⟩ ?_
  rintro ρ ⟨e0, e1, e2, -⟩
  refine wpC_region ?_
  refine wpR_val (v := (Value.int .i64 p0)) (w' := w0) rfl rfl rfl (x_move (v := (Value.int .i64 p0)) rfl e0) ?_
  refine wpR_val (v := (Value.int .i64 p1)) (w' := w0) rfl rfl rfl (x_move (v := (Value.int .i64 p1)) rfl e1) ?_
  refine wpR_val (v := (Value.bool (decide (p1 ≤ p0)))) (w' := w0) rfl rfl rfl (x_geq rfl rfl rfl) ?_
  refine wpR_val (v := (Value.bool (decide (p1 ≤ p0)))) (w' := w0) rfl rfl rfl (x_move (v := (Value.bool (decide (p1 ≤ p0)))) rfl rfl) ?_
  refine wpR_joinJ 4 (fun (_ : Unit) ρ => ρ 14 = Value.bool ((decide (p1 ≤ p0)) && (decide (p0 ≤ p2))) ∧ True) (fun _ w => w0 = w) ?_ ?_
  · clear h
    rcases Bool.eq_false_or_eq_true (decide (p1 ≤ p0)) with hc10 | hc10
    · skip
      refine wpR_val (v := (Value.int .i64 p0)) (w' := w0) (wantG rfl rfl rfl hc10) rfl rfl (x_move (v := (Value.int .i64 p0)) rfl e0) ?_
      refine wpR_val (v := (Value.int .i64 p2)) (w' := w0) (wantG rfl rfl rfl hc10) rfl rfl (x_move (v := (Value.int .i64 p2)) rfl e2) ?_
      refine wpR_val (v := (Value.bool (decide (p0 ≤ p2)))) (w' := w0) (wantG rfl rfl rfl hc10) rfl rfl (x_leq rfl rfl rfl) ?_
      refine wpR_val (v := (Value.bool (decide (p0 ≤ p2)))) (w' := w0) rfl rfl rfl (x_pickT (v := (Value.bool (decide (p0 ≤ p2)))) rfl rfl hc10 rfl) ?_
      refine wpR_nil ?_
      exact ⟨(), ⟨(by rw [hc10]; rfl), trivial⟩, rfl⟩
    · skip
      refine wpR_pass (wantN rfl rfl rfl hc10) rfl rfl ?_
      refine wpR_pass (wantN rfl rfl rfl hc10) rfl rfl ?_
      refine wpR_pass (wantN rfl rfl rfl hc10) rfl rfl ?_
      refine wpR_val (v := (Value.bool false)) (w' := w0) rfl rfl rfl (x_pickF (v := (Value.bool false)) rfl rfl hc10 rfl) ?_
      refine wpR_nil ?_
      exact ⟨(), ⟨(by rw [hc10]; rfl), trivial⟩, rfl⟩
  rintro _ ρ wj ⟨e14, -⟩ rfl
  refine wpR_val (v := (Value.bool ((decide (p1 ≤ p0)) && (decide (p0 ≤ p2))))) (w' := w0) rfl rfl rfl (x_assign (v := (Value.bool ((decide (p1 ≤ p0)) && (decide (p0 ≤ p2))))) rfl e14) ?_
  refine wpR_nil ?_
  refine wpC_ret ?_
  exact ⟨.inl rfl, fun a ha => ⟨_, results_rep1 rfl ha rfl, (decide (p1 ≤ p0)) && (decide (p0 ≤ p2)), rfl, h⟩⟩

/-- profile.together -/
def F41 (p0_0 : ByteArray) (p0_1 : Int) (p0_2 : Int) (p0_3 : Int) (p0_4 : Bool) (p0_5 : Int) (p0_6 : Bool) (p0_7 : Bool) (p0_8 : Int) (p0_9 : Int) (p0_10 : Int) (p0_11 : Int) (p0_12 : Sl) (p0_13 : Int) (p0_14 : Int) (p0_15 : Int) (p0_16 : Int) (p0_17 : Bool) (p0_18 : Int) (p0_19 : Int) (p0_20 : Int) (p0_21 : Int) (w0 : World) (K : Bool → World → Prop) : Prop :=
  nw 24 (A23 p0_0 p0_1 p0_2 p0_3 p0_4 p0_5 p0_6 p0_7 p0_8 p0_9 p0_10 p0_11 p0_12 p0_13 p0_14 p0_15 p0_16 p0_17 p0_18 p0_19 p0_20 p0_21) w0 fun b9 w1 =>
  ld (Value.int .i64) ((Addr.mk b9 0 none).add 10) w1 fun x10 =>
  ld (Value.int .i64) ((Addr.mk b9 0 none).add 11) w1 fun x11 =>
  jp (fun J12 => cnd ((decide (x10 = 0)) == (decide (x11 = 0)))
    (
    ld (Value.int .i64) ((Addr.mk b9 0 none).add 10) w1 fun x14 =>
    ld Sl.v ((Addr.mk b9 0 none).add 12) w1 fun x15 =>
    J12 ((decide (x14 = 0)) == (decide ((x15.len : Int) = 0)))
    )
    (
    J12 false
    ))
  fun c16 =>
  K c16 w1
set_option maxRecDepth 100000 in
theorem D41 (p0_0 : ByteArray) (p0_1 : Int) (p0_2 : Int) (p0_3 : Int) (p0_4 : Bool) (p0_5 : Int) (p0_6 : Bool) (p0_7 : Bool) (p0_8 : Int) (p0_9 : Int) (p0_10 : Int) (p0_11 : Int) (p0_12 : Sl) (p0_13 : Int) (p0_14 : Int) (p0_15 : Int) (p0_16 : Int) (p0_17 : Bool) (p0_18 : Int) (p0_19 : Int) (p0_20 : Int) (p0_21 : Int) (w0 : World) (K : Bool → World → Prop) (h : F41 p0_0 p0_1 p0_2 p0_3 p0_4 p0_5 p0_6 p0_7 p0_8 p0_9 p0_10 p0_11 p0_12 p0_13 p0_14 p0_15 p0_16 p0_17 p0_18 p0_19 p0_20 p0_21 w0 K) : callC Try.prog 41 #[(V23 p0_0 p0_1 p0_2 p0_3 p0_4 p0_5 p0_6 p0_7 p0_8 p0_9 p0_10 p0_11 p0_12 p0_13 p0_14 p0_15 p0_16 p0_17 p0_18 p0_19 p0_20 p0_21)] (fun (r : Bool) => (Value.bool r)) w0 K := by
  unfold F41 at h
  refine calls_of_wpC Try.func41 rfl 20 rfl (by simp) ?_
  intro ρ hρ
  have e0 : ρ 0 = (V23 p0_0 p0_1 p0_2 p0_3 p0_4 p0_5 p0_6 p0_7 p0_8 p0_9 p0_10 p0_11 p0_12 p0_13 p0_14 p0_15 p0_16 p0_17 p0_18 p0_19 p0_20 p0_21) := hρ 0
  clear hρ
  refine wpC_seq ?_
  refine wpC_region ?_
  obtain ⟨b9, hb9⟩ : ∃ u, u = w0.heap.size := ⟨_, rfl⟩
  obtain ⟨w1, hw9⟩ : ∃ u, u = w0.alloc (.cells (A23 p0_0 p0_1 p0_2 p0_3 p0_4 p0_5 p0_6 p0_7 p0_8 p0_9 p0_10 p0_11 p0_12 p0_13 p0_14 p0_15 p0_16 p0_17 p0_18 p0_19 p0_20 p0_21) 24) := ⟨_, rfl⟩
  replace h := h b9 w1 hb9 hw9
  refine wpR_val (v := (Value.pointer (some (Addr.mk b9 0 none)))) (w' := w1) rfl rfl rfl ((x_box (v := (V23 p0_0 p0_1 p0_2 p0_3 p0_4 p0_5 p0_6 p0_7 p0_8 p0_9 p0_10 p0_11 p0_12 p0_13 p0_14 p0_15 p0_16 p0_17 p0_18 p0_19 p0_20 p0_21)) rfl e0).trans (by rw [hb9, hw9]; rfl)) ?_
  refine wpR_val (v := (Value.bool false)) (w' := w1) rfl rfl rfl (x_assign (v := (Value.bool false)) rfl rfl) ?_
  refine wpR_nil ?_
  refine wpC_seq ?_
  refine wpC_cut (fun ρ => ρ 1 = (Value.pointer (some (Addr.mk b9 0 none))) ∧ True) ⟨rfl, trivial⟩ ?_
  rintro ρ ⟨e1, -⟩
  refine wpC_region ?_
  refine wpR_val (v := (Value.pointer (some ((Addr.mk b9 0 none).add 10)))) (w' := w1) rfl rfl rfl (x_fieldAddr rfl e1 FA_24_10) ?_
  obtain ⟨x10, q10, h⟩ := h
  refine wpR_val (v := (Value.int .i64 x10)) (w' := w1) rfl rfl rfl (x_load1 rfl rfl SH_3 q10) ?_
  refine wpR_val (v := (Value.bool (decide (x10 = 0)))) (w' := w1) rfl rfl rfl (x_eql rfl rfl rfl) ?_
  refine wpR_val (v := (Value.pointer (some ((Addr.mk b9 0 none).add 11)))) (w' := w1) rfl rfl rfl (x_fieldAddr rfl e1 FA_24_11) ?_
  obtain ⟨x11, q11, h⟩ := h
  refine wpR_val (v := (Value.int .i64 x11)) (w' := w1) rfl rfl rfl (x_load1 rfl rfl SH_3 q11) ?_
  refine wpR_val (v := (Value.bool (decide (x11 = 0)))) (w' := w1) rfl rfl rfl (x_eql rfl rfl rfl) ?_
  refine wpR_val (v := (Value.bool ((decide (x10 = 0)) == (decide (x11 = 0))))) (w' := w1) rfl rfl rfl (x_eqlB rfl rfl rfl isBoolT_4) ?_
  refine wpR_val (v := (Value.bool ((decide (x10 = 0)) == (decide (x11 = 0))))) (w' := w1) rfl rfl rfl (x_move (v := (Value.bool ((decide (x10 = 0)) == (decide (x11 = 0))))) rfl rfl) ?_
  obtain ⟨J12, h, hk⟩ := h
  refine wpR_joinJ 9 (fun x ρ => ρ 19 = Value.bool x ∧ True) (fun x w => J12 x ∧ w1 = w) ?_ ?_
  · clear hk
    rcases Bool.eq_false_or_eq_true ((decide (x10 = 0)) == (decide (x11 = 0))) with hc13 | hc13
    · replace h := h.1 hc13
      refine wpR_val (v := (Value.pointer (some ((Addr.mk b9 0 none).add 10)))) (w' := w1) (wantG rfl rfl rfl hc13) rfl rfl (x_fieldAddr rfl e1 FA_24_10) ?_
      obtain ⟨x14, q14, h⟩ := h
      refine wpR_val (v := (Value.int .i64 x14)) (w' := w1) (wantG rfl rfl rfl hc13) rfl rfl (x_load1 rfl rfl SH_3 q14) ?_
      refine wpR_val (v := (Value.bool (decide (x14 = 0)))) (w' := w1) (wantG rfl rfl rfl hc13) rfl rfl (x_eql rfl rfl rfl) ?_
      refine wpR_val (v := (Value.pointer (some ((Addr.mk b9 0 none).add 12)))) (w' := w1) (wantG rfl rfl rfl hc13) rfl rfl (x_fieldAddr rfl e1 FA_24_12) ?_
      obtain ⟨x15, q15, h⟩ := h
      refine wpR_val (v := (Sl.v x15)) (w' := w1) (wantG rfl rfl rfl hc13) rfl rfl (x_load1 rfl rfl SH_22 q15) ?_
      refine wpR_val (v := (Value.int .i64 (x15.len : Int))) (w' := w1) (wantG rfl rfl rfl hc13) rfl rfl (x_lenS (s := x15) rfl rfl isSliceT_22) ?_
      refine wpR_val (v := (Value.bool (decide ((x15.len : Int) = 0)))) (w' := w1) (wantG rfl rfl rfl hc13) rfl rfl (x_eql rfl rfl rfl) ?_
      refine wpR_val (v := (Value.bool ((decide (x14 = 0)) == (decide ((x15.len : Int) = 0))))) (w' := w1) (wantG rfl rfl rfl hc13) rfl rfl (x_eqlB rfl rfl rfl isBoolT_4) ?_
      refine wpR_val (v := (Value.bool ((decide (x14 = 0)) == (decide ((x15.len : Int) = 0))))) (w' := w1) rfl rfl rfl (x_pickT (v := (Value.bool ((decide (x14 = 0)) == (decide ((x15.len : Int) = 0))))) rfl rfl hc13 rfl) ?_
      refine wpR_nil ?_
      exact ⟨(decide (x14 = 0)) == (decide ((x15.len : Int) = 0)), ⟨rfl, trivial⟩, h, rfl⟩
    · replace h := h.2 hc13
      refine wpR_pass (wantN rfl rfl rfl hc13) rfl rfl ?_
      refine wpR_pass (wantN rfl rfl rfl hc13) rfl rfl ?_
      refine wpR_pass (wantN rfl rfl rfl hc13) rfl rfl ?_
      refine wpR_pass (wantN rfl rfl rfl hc13) rfl rfl ?_
      refine wpR_pass (wantN rfl rfl rfl hc13) rfl rfl ?_
      refine wpR_pass (wantN rfl rfl rfl hc13) rfl rfl ?_
      refine wpR_pass (wantN rfl rfl rfl hc13) rfl rfl ?_
      refine wpR_pass (wantN rfl rfl rfl hc13) rfl rfl ?_
      refine wpR_val (v := (Value.bool false)) (w' := w1) rfl rfl rfl (x_pickF (v := (Value.bool false)) rfl rfl hc13 rfl) ?_
      refine wpR_nil ?_
      exact ⟨false, ⟨rfl, trivial⟩, h, rfl⟩
  clear h
  rintro c16 ρ wj ⟨e19, -⟩ ⟨h, rfl⟩
  replace h := hk c16 h
  clear hk
  refine wpR_val (v := (Value.bool c16)) (w' := w1) rfl rfl rfl (x_assign (v := (Value.bool c16)) rfl e19) ?_
  refine wpR_nil ?_
  refine wpC_ret ?_
  exact ⟨.inl rfl, fun a ha => ⟨_, results_rep1 rfl ha rfl, c16, rfl, h⟩⟩

/-- slices.Contains[[]string,string] -/
def F42 (p0 : Sl) (p1 : ByteArray) (w0 : World) (K : Bool → World → Prop) : Prop :=
  callC Try.prog 55 #[(Sl.v p0), (Value.string p1)] (fun (r : Int) => (Value.int .i64 r)) w0 fun r9 w1 =>
  K (decide (0 ≤ r9)) w1
set_option maxRecDepth 100000 in
theorem D42 (p0 : Sl) (p1 : ByteArray) (w0 : World) (K : Bool → World → Prop) (h : F42 p0 p1 w0 K) : callC Try.prog 42 #[(Sl.v p0), (Value.string p1)] (fun (r : Bool) => (Value.bool r)) w0 K := by
  unfold F42 at h
  refine calls_of_wpC Try.func42 rfl 9 rfl (by simp) ?_
  intro ρ hρ
  have e0 : ρ 0 = (Sl.v p0) := hρ 0
  have e1 : ρ 1 = (Value.string p1) := hρ 1
  clear hρ
  refine wpC_seq ?_
  refine wpC_region ?_
  refine wpR_val (v := (Value.bool false)) (w' := w0) rfl rfl rfl (x_assign (v := (Value.bool false)) rfl rfl) ?_
  refine wpR_nil ?_
  refine wpC_seq ?_
  refine wpC_cut (fun ρ => ρ 0 = (Sl.v p0) ∧ ρ 1 = (Value.string p1) ∧ True) ⟨e0, e1, trivial⟩ ?_
  rintro ρ ⟨e0, e1, -⟩
  refine wpC_region ?_
  refine wpR_val (v := (Sl.v p0)) (w' := w0) rfl rfl rfl (x_move (v := (Sl.v p0)) rfl e0) ?_
  refine wpR_val (v := (Value.string p1)) (w' := w0) rfl rfl rfl (x_move (v := (Value.string p1)) rfl e1) ?_
  refine wpR_enter rfl rfl rfl (x_call (vs := [(Sl.v p0), (Value.string p1)]) rfl rfl (mapl_cons rfl (mapl_cons rfl mapl_nil)) Try.func55 NN_55 NB_55) (Calls.mono h ?_)
  rintro _ w1 ⟨r9, rfl, h⟩
  refine ⟨_, rfl, ?_⟩
  refine wpR_val (v := (Value.bool (decide (0 ≤ r9)))) (w' := w1) rfl rfl rfl (x_geq rfl rfl rfl) ?_
  refine wpR_val (v := (Value.bool (decide (0 ≤ r9)))) (w' := w1) rfl rfl rfl (x_assign (v := (Value.bool (decide (0 ≤ r9)))) rfl rfl) ?_
  refine wpR_nil ?_
  refine wpC_ret ?_
  exact ⟨.inl rfl, fun a ha => ⟨_, results_rep1 rfl ha rfl, decide (0 ≤ r9), rfl, h⟩⟩

/-- ways.first -/
def F43 (p0 : Sl) (w0 : World) (K : (Int × Int) → World → Prop) : Prop :=
  nw 46 #[(Value.int .i64 0), (Value.int .i64 0)] w0 fun b9 w1 =>
  lp (fun (next10 : Int → World → Prop) l10 w2 =>
    cnd (decide (l10 < (p0.len : Int)))
      (
      ix p0 l10 3 fun p12 =>
      ld Value.bool (p12.add 0) w2 fun x13 =>
      ld (Value.int .i64) (p12.add 1) w2 fun x14 =>
      ld (Value.int .i64) (p12.add 2) w2 fun x15 =>
      nw 72 #[(Value.bool false), (Value.int .i64 0), (Value.int .i64 0)] w2 fun b16 w3 =>
      st (Addr.mk b16 0 none) [(Value.bool x13), (Value.int .i64 x14), (Value.int .i64 x15)] w3 fun w4 =>
      ld Value.bool ((Addr.mk b16 0 none).add 0) w4 fun x18 =>
      cnd (x18)
        (
        ld (Value.int .i64) (((Addr.mk b16 0 none).add 1).add 0) w4 fun x20 =>
        ld (Value.int .i64) (((Addr.mk b16 0 none).add 1).add 1) w4 fun x21 =>
        st (Addr.mk b9 0 none) [(Value.int .i64 x20), (Value.int .i64 x21)] w4 fun w5 =>
        ld (Value.int .i64) ((Addr.mk b9 0 none).add 0) w5 fun x23 =>
        ld (Value.int .i64) ((Addr.mk b9 0 none).add 1) w5 fun x24 =>
        K (x23, x24) w5
        )
        (
        next10 (IntKind.i64.wrap (l10 + 1)) w4
        )
      )
      (
      st (Addr.mk b9 0 none) [(Value.int .i64 5), (Value.int .i64 2)] w2 fun w6 =>
      ld (Value.int .i64) ((Addr.mk b9 0 none).add 0) w6 fun x26 =>
      ld (Value.int .i64) ((Addr.mk b9 0 none).add 1) w6 fun x27 =>
      K (x26, x27) w6
      )
  ) 0 w1
set_option maxRecDepth 100000 in
theorem D43 (p0 : Sl) (w0 : World) (K : (Int × Int) → World → Prop) (h : F43 p0 w0 K) : callC Try.prog 43 #[(Sl.v p0)] (fun (r : Int × Int) => (Value.agg #[(Value.int .i64 r.1), (Value.int .i64 r.2)])) w0 K := by
  unfold F43 at h
  refine calls_of_wpC Try.func43 rfl 17 rfl (by simp) ?_
  intro ρ hρ
  have e0 : ρ 0 = (Sl.v p0) := hρ 0
  clear hρ
  refine wpC_seq ?_
  refine wpC_region ?_
  obtain ⟨b9, hb9⟩ : ∃ u, u = w0.heap.size := ⟨_, rfl⟩
  obtain ⟨w1, hw9⟩ : ∃ u, u = w0.alloc (.cells #[(Value.int .i64 0), (Value.int .i64 0)] 46) := ⟨_, rfl⟩
  replace h := h b9 w1 hb9 hw9
  refine wpR_val (v := (Value.pointer (some (Addr.mk b9 0 none)))) (w' := w1) rfl rfl rfl ((x_alloc rfl ZV_46).trans (by rw [hb9, hw9]; rfl)) ?_
  refine wpR_nil ?_
  refine wpC_seq ?_
  refine wpC_seq ?_
  refine wpC_cut (fun ρ => ρ 0 = (Sl.v p0) ∧ ρ 2 = (Value.pointer (some (Addr.mk b9 0 none))) ∧ True) ⟨e0, rfl, trivial⟩ ?_
  rintro ρ ⟨e0, e2, -⟩
  refine wpC_region ?_
  refine wpR_val (v := (Sl.v p0)) (w' := w1) rfl rfl rfl (x_move (v := (Sl.v p0)) rfl e0) ?_
  refine wpR_val (v := (Value.int .i64 (p0.len : Int))) (w' := w1) rfl rfl rfl (x_lenS (s := p0) rfl rfl isSliceT_85) ?_
  refine wpR_val (v := (Value.int .i64 0)) (w' := w1) rfl rfl rfl (x_move (v := (Value.int .i64 0)) rfl rfl) ?_
  refine wpR_nil ?_
  refine wpC_block ?_
  obtain ⟨I10, μ10, hI10, hr10⟩ := h
  refine wpC_loop (fun (x : Int) ρ => ρ 7 = (Value.int .i64 x) ∧ ρ 2 = (Value.pointer (some (Addr.mk b9 0 none))) ∧ ρ 5 = (Sl.v p0) ∧ ρ 6 = (Value.int .i64 (p0.len : Int)) ∧ True) I10 μ10 0 ⟨rfl, e2, rfl, rfl, trivial⟩ hI10 ?_
  rintro l10 ρ w2 ⟨e7, e2, e5, e6, -⟩ h
  replace h := hr10 l10 w2 h
  clear hr10 hI10
  refine wpC_seq ?_
  refine wpC_region ?_
  refine wpR_val (v := (Value.bool (decide (l10 < (p0.len : Int))))) (w' := w2) rfl rfl rfl (x_lss rfl e7 e6) ?_
  refine wpR_nil ?_
  refine wpC_seq ?_
  refine wpC_cond (b := decide (l10 < (p0.len : Int))) rfl (fun hc11 => ?_) (fun hc11 => ?_)
  · replace h := h.1 hc11
    refine wpC_skip ?_
    refine wpC_seq ?_
    refine wpC_block ?_
    refine wpC_seq ?_
    refine wpC_cut (fun ρ => ρ 2 = (Value.pointer (some (Addr.mk b9 0 none))) ∧ ρ 5 = (Sl.v p0) ∧ ρ 6 = (Value.int .i64 (p0.len : Int)) ∧ ρ 7 = (Value.int .i64 l10) ∧ True) ⟨e2, e5, e6, e7, trivial⟩ ?_
    rintro ρ ⟨e2, e5, e6, e7, -⟩
    refine wpC_region ?_
    obtain ⟨q12, z12, r12, h⟩ := h
    generalize hp12 : z12.add ((l10 : Int).toNat * 3) = p12 at h
    refine wpR_val (v := (Value.pointer (some p12))) (w' := w2) rfl rfl rfl ((x_indexAddr (s := p0) rfl e5 e7 ES_85 q12 r12).trans (by rw [hp12])) ?_
    obtain ⟨x13, q13, x14, q14, x15, q15, h⟩ := h
    refine wpR_val (v := (Value.agg #[(Value.bool x13), (Value.int .i64 x14), (Value.int .i64 x15)])) (w' := w2) rfl rfl rfl (x_loadN [(Value.bool x13), (Value.int .i64 x14), (Value.int .i64 x15)] rfl rfl SH_72 (CellsAt.out (CellsAt.cons q13 (CellsAt.cons q14 (CellsAt.cons q15 CellsAt.nil))))) ?_
    obtain ⟨b16, hb16⟩ : ∃ u, u = w2.heap.size := ⟨_, rfl⟩
    obtain ⟨w3, hw16⟩ : ∃ u, u = w2.alloc (.cells #[(Value.bool false), (Value.int .i64 0), (Value.int .i64 0)] 72) := ⟨_, rfl⟩
    replace h := h b16 w3 hb16 hw16
    refine wpR_val (v := (Value.pointer (some (Addr.mk b16 0 none)))) (w' := w3) rfl rfl rfl ((x_alloc rfl ZV_72).trans (by rw [hb16, hw16]; rfl)) ?_
    obtain ⟨q17, h⟩ := h
    obtain ⟨w4, hw17⟩ : ∃ u, u = setAll w3 (Addr.mk b16 0 none) [(Value.bool x13), (Value.int .i64 x14), (Value.int .i64 x15)] 0 := ⟨_, rfl⟩
    replace h := h w4 hw17
    refine wpR_skp (w' := w4) rfl rfl ((x_store (v := (Value.agg #[(Value.bool x13), (Value.int .i64 x14), (Value.int .i64 x15)])) rfl rfl rfl SZ_72 (ones (by rfl)) q17).trans (by rw [hw17]; rfl)) ?_
    refine wpR_nil ?_
    refine wpC_seq ?_
    refine wpC_cut (fun ρ => ρ 2 = (Value.pointer (some (Addr.mk b9 0 none))) ∧ ρ 4 = (Value.pointer (some (Addr.mk b16 0 none))) ∧ ρ 5 = (Sl.v p0) ∧ ρ 6 = (Value.int .i64 (p0.len : Int)) ∧ ρ 7 = (Value.int .i64 l10) ∧ True) ⟨e2, rfl, e5, e6, e7, trivial⟩ ?_
    rintro ρ ⟨e2, e4, e5, e6, e7, -⟩
    refine wpC_region ?_
    refine wpR_val (v := (Value.pointer (some ((Addr.mk b16 0 none).add 0)))) (w' := w4) rfl rfl rfl (x_fieldAddr rfl e4 FA_72_0) ?_
    obtain ⟨x18, q18, h⟩ := h
    refine wpR_val (v := (Value.bool x18)) (w' := w4) rfl rfl rfl (x_load1 rfl rfl SH_4 q18) ?_
    refine wpR_nil ?_
    refine wpC_cond (b := x18) rfl (fun hc19 => ?_) (fun hc19 => ?_)
    · replace h := h.1 hc19
      refine wpC_seq ?_
      refine wpC_cut (fun ρ => ρ 2 = (Value.pointer (some (Addr.mk b9 0 none))) ∧ ρ 4 = (Value.pointer (some (Addr.mk b16 0 none))) ∧ True) ⟨e2, e4, trivial⟩ ?_
      rintro ρ ⟨e2, e4, -⟩
      refine wpC_region ?_
      refine wpR_val (v := (Value.pointer (some ((Addr.mk b16 0 none).add 1)))) (w' := w4) rfl rfl rfl (x_fieldAddr rfl e4 FA_72_1) ?_
      obtain ⟨x20, q20, x21, q21, h⟩ := h
      refine wpR_val (v := (Value.agg #[(Value.int .i64 x20), (Value.int .i64 x21)])) (w' := w4) rfl rfl rfl (x_loadN [(Value.int .i64 x20), (Value.int .i64 x21)] rfl rfl SH_46 (CellsAt.out (CellsAt.cons q20 (CellsAt.cons q21 CellsAt.nil)))) ?_
      obtain ⟨q22, h⟩ := h
      obtain ⟨w5, hw22⟩ : ∃ u, u = setAll w4 (Addr.mk b9 0 none) [(Value.int .i64 x20), (Value.int .i64 x21)] 0 := ⟨_, rfl⟩
      replace h := h w5 hw22
      refine wpR_skp (w' := w5) rfl rfl ((x_store (v := (Value.agg #[(Value.int .i64 x20), (Value.int .i64 x21)])) rfl e2 rfl SZ_46 (ones (by rfl)) q22).trans (by rw [hw22]; rfl)) ?_
      refine wpR_nil ?_
      refine wpC_ret ?_
      obtain ⟨x23, q23, x24, q24, h⟩ := h
      exact ⟨.inl rfl, fun a ha => ⟨_, results_repC [(Value.int .i64 x23), (Value.int .i64 x24)] rfl ha e2 SH_46 (CellsAt.out (CellsAt.cons q23 (CellsAt.cons q24 CellsAt.nil))), (x23, x24), rfl, h⟩⟩
    · replace h := h.2 hc19
      refine wpC_skip ?_
      refine wpC_cut (fun ρ => ρ 2 = (Value.pointer (some (Addr.mk b9 0 none))) ∧ ρ 5 = (Sl.v p0) ∧ ρ 6 = (Value.int .i64 (p0.len : Int)) ∧ ρ 7 = (Value.int .i64 l10) ∧ True) ⟨e2, e5, e6, e7, trivial⟩ ?_
      rintro ρ ⟨e2, e5, e6, e7, -⟩
      refine wpC_region ?_
      refine wpR_val (v := (Value.int .i64 (IntKind.i64.wrap (l10 + 1)))) (w' := w4) rfl rfl rfl (x_add rfl e7 rfl) ?_
      refine wpR_val (v := (Value.int .i64 (IntKind.i64.wrap (l10 + 1)))) (w' := w4) rfl rfl rfl (x_move (v := (Value.int .i64 (IntKind.i64.wrap (l10 + 1)))) rfl rfl) ?_
      refine wpR_nil ?_
      exact ⟨IntKind.i64.wrap (l10 + 1), ⟨rfl, e2, e5, e6, trivial⟩, h⟩
  · replace h := h.2 hc11
    refine wpC_exit ?_
    refine wpC_seq ?_
    refine wpC_cut (fun ρ => ρ 2 = (Value.pointer (some (Addr.mk b9 0 none))) ∧ True) ⟨e2, trivial⟩ ?_
    rintro ρ ⟨e2, -⟩
    refine wpC_region ?_
    refine wpR_val (v := (Value.agg #[(Value.int .i64 5), (Value.int .i64 2)])) (w' := w2) rfl rfl rfl (x_build (qs := [(0, (Value.int .i64 5)), (1, (Value.int .i64 2))]) rfl (by rfl) (BD_46_0_1 5 2 _)) ?_
    obtain ⟨q25, h⟩ := h
    obtain ⟨w6, hw25⟩ : ∃ u, u = setAll w2 (Addr.mk b9 0 none) [(Value.int .i64 5), (Value.int .i64 2)] 0 := ⟨_, rfl⟩
    replace h := h w6 hw25
    refine wpR_skp (w' := w6) rfl rfl ((x_store (v := (Value.agg #[(Value.int .i64 5), (Value.int .i64 2)])) rfl e2 rfl SZ_46 (ones (by rfl)) q25).trans (by rw [hw25]; rfl)) ?_
    refine wpR_nil ?_
    refine wpC_ret ?_
    obtain ⟨x26, q26, x27, q27, h⟩ := h
    exact ⟨.inl rfl, fun a ha => ⟨_, results_repC [(Value.int .i64 x26), (Value.int .i64 x27)] rfl ha e2 SH_46 (CellsAt.out (CellsAt.cons q26 (CellsAt.cons q27 CellsAt.nil))), (x26, x27), rfl, h⟩⟩

/-- slices.ContainsFunc[[]string,string] -/
def F47 (p0 : Sl) (p1 : Value) (w0 : World) (K : Bool → World → Prop) : Prop :=
  callC Try.prog 56 #[(Sl.v p0), p1] (fun (r : Int) => (Value.int .i64 r)) w0 fun r9 w1 =>
  K (decide (0 ≤ r9)) w1
set_option maxRecDepth 100000 in
theorem D47 (p0 : Sl) (p1 : Value) (w0 : World) (K : Bool → World → Prop) (h : F47 p0 p1 w0 K) : callC Try.prog 47 #[(Sl.v p0), p1] (fun (r : Bool) => (Value.bool r)) w0 K := by
  unfold F47 at h
  refine calls_of_wpC Try.func47 rfl 9 rfl (by simp) ?_
  intro ρ hρ
  have e0 : ρ 0 = (Sl.v p0) := hρ 0
  have e1 : ρ 1 = p1 := hρ 1
  clear hρ
  refine wpC_seq ?_
  refine wpC_region ?_
  refine wpR_val (v := (Value.bool false)) (w' := w0) rfl rfl rfl (x_assign (v := (Value.bool false)) rfl rfl) ?_
  refine wpR_nil ?_
  refine wpC_seq ?_
  refine wpC_cut (fun ρ => ρ 0 = (Sl.v p0) ∧ ρ 1 = p1 ∧ True) ⟨e0, e1, trivial⟩ ?_
  rintro ρ ⟨e0, e1, -⟩
  refine wpC_region ?_
  refine wpR_val (v := (Sl.v p0)) (w' := w0) rfl rfl rfl (x_move (v := (Sl.v p0)) rfl e0) ?_
  refine wpR_val (v := p1) (w' := w0) rfl rfl rfl (x_move (v := p1) rfl e1) ?_
  refine wpR_enter rfl rfl rfl (x_call (vs := [(Sl.v p0), p1]) rfl rfl (mapl_cons rfl (mapl_cons rfl mapl_nil)) Try.func56 NN_56 NB_56) (Calls.mono h ?_)
  rintro _ w1 ⟨r9, rfl, h⟩
  refine ⟨_, rfl, ?_⟩
  refine wpR_val (v := (Value.bool (decide (0 ≤ r9)))) (w' := w1) rfl rfl rfl (x_geq rfl rfl rfl) ?_
  refine wpR_val (v := (Value.bool (decide (0 ≤ r9)))) (w' := w1) rfl rfl rfl (x_assign (v := (Value.bool (decide (0 ≤ r9)))) rfl rfl) ?_
  refine wpR_nil ?_
  refine wpC_ret ?_
  exact ⟨.inl rfl, fun a ha => ⟨_, results_rep1 rfl ha rfl, decide (0 ≤ r9), rfl, h⟩⟩

/-- loss.right$1 -/
def F48 (p0_0 : Int) (p0_1 : Int) (w0 : World) (K : Bool → World → Prop) : Prop :=
  nw 46 #[(Value.int .i64 p0_0), (Value.int .i64 p0_1)] w0 fun b9 w1 =>
  ld (Value.int .i64) ((Addr.mk b9 0 none).add 0) w1 fun x10 =>
  jp (fun J11 => cnd (decide (x10 < 0))
    (
    J11 true
    )
    (
    ld (Value.int .i64) ((Addr.mk b9 0 none).add 0) w1 fun x13 =>
    J11 (decide (6 ≤ x13))
    ))
  fun c14 =>
  jp (fun J15 => cnd (c14)
    (
    J15 true
    )
    (
    ld (Value.int .i64) ((Addr.mk b9 0 none).add 1) w1 fun x17 =>
    J15 (decide (x17 < 0))
    ))
  fun c18 =>
  jp (fun J19 => cnd (c18)
    (
    J19 true
    )
    (
    ld (Value.int .i64) ((Addr.mk b9 0 none).add 1) w1 fun x21 =>
    J19 (decide (3 ≤ x21))
    ))
  fun c22 =>
  K c22 w1
set_option maxRecDepth 100000 in
theorem D48 (p0_0 : Int) (p0_1 : Int) (w0 : World) (K : Bool → World → Prop) (h : F48 p0_0 p0_1 w0 K) : callC Try.prog 48 #[(Value.agg #[(Value.int .i64 p0_0), (Value.int .i64 p0_1)])] (fun (r : Bool) => (Value.bool r)) w0 K := by
  unfold F48 at h
  refine calls_of_wpC Try.func48 rfl 21 rfl (by simp) ?_
  intro ρ hρ
  have e0 : ρ 0 = (Value.agg #[(Value.int .i64 p0_0), (Value.int .i64 p0_1)]) := hρ 0
  clear hρ
  refine wpC_seq ?_
  refine wpC_region ?_
  obtain ⟨b9, hb9⟩ : ∃ u, u = w0.heap.size := ⟨_, rfl⟩
  obtain ⟨w1, hw9⟩ : ∃ u, u = w0.alloc (.cells #[(Value.int .i64 p0_0), (Value.int .i64 p0_1)] 46) := ⟨_, rfl⟩
  replace h := h b9 w1 hb9 hw9
  refine wpR_val (v := (Value.pointer (some (Addr.mk b9 0 none)))) (w' := w1) rfl rfl rfl ((x_box (v := (Value.agg #[(Value.int .i64 p0_0), (Value.int .i64 p0_1)])) rfl e0).trans (by rw [hb9, hw9]; rfl)) ?_
  refine wpR_val (v := (Value.bool false)) (w' := w1) rfl rfl rfl (x_assign (v := (Value.bool false)) rfl rfl) ?_
  refine wpR_nil ?_
  refine wpC_seq ?_
  refine wpC_cut (fun ρ => ρ 1 = (Value.pointer (some (Addr.mk b9 0 none))) ∧ True) ⟨rfl, trivial⟩ ?_
  rintro ρ ⟨e1, -⟩
  refine wpC_region ?_
  refine wpR_val (v := (Value.pointer (some ((Addr.mk b9 0 none).add 0)))) (w' := w1) rfl rfl rfl (x_fieldAddr rfl e1 FA_46_0) ?_
  obtain ⟨x10, q10, h⟩ := h
  refine wpR_val (v := (Value.int .i64 x10)) (w' := w1) rfl rfl rfl (x_load1 rfl rfl SH_3 q10) ?_
  refine wpR_val (v := (Value.bool (decide (x10 < 0)))) (w' := w1) rfl rfl rfl (x_lss rfl rfl rfl) ?_
  refine wpR_val (v := (Value.bool (decide (x10 < 0)))) (w' := w1) rfl rfl rfl (x_move (v := (Value.bool (decide (x10 < 0)))) rfl rfl) ?_
  obtain ⟨J11, h, hk⟩ := h
  refine wpR_joinJ 4 (fun x ρ => ρ 10 = Value.bool x ∧ ρ 1 = (Value.pointer (some (Addr.mk b9 0 none))) ∧ True) (fun x w => J11 x ∧ w1 = w) ?_ ?_
  · clear hk
    rcases Bool.eq_false_or_eq_true (decide (x10 < 0)) with hc12 | hc12
    · replace h := h.1 hc12
      refine wpR_pass (wantN rfl rfl rfl hc12) rfl rfl ?_
      refine wpR_pass (wantN rfl rfl rfl hc12) rfl rfl ?_
      refine wpR_pass (wantN rfl rfl rfl hc12) rfl rfl ?_
      refine wpR_val (v := (Value.bool true)) (w' := w1) rfl rfl rfl (x_pickT (v := (Value.bool true)) rfl rfl hc12 rfl) ?_
      refine wpR_nil ?_
      exact ⟨true, ⟨rfl, e1, trivial⟩, h, rfl⟩
    · replace h := h.2 hc12
      refine wpR_val (v := (Value.pointer (some ((Addr.mk b9 0 none).add 0)))) (w' := w1) (wantG rfl rfl rfl hc12) rfl rfl (x_fieldAddr rfl e1 FA_46_0) ?_
      obtain ⟨x13, q13, h⟩ := h
      refine wpR_val (v := (Value.int .i64 x13)) (w' := w1) (wantG rfl rfl rfl hc12) rfl rfl (x_load1 rfl rfl SH_3 q13) ?_
      refine wpR_val (v := (Value.bool (decide (6 ≤ x13)))) (w' := w1) (wantG rfl rfl rfl hc12) rfl rfl (x_geq rfl rfl rfl) ?_
      refine wpR_val (v := (Value.bool (decide (6 ≤ x13)))) (w' := w1) rfl rfl rfl (x_pickF (v := (Value.bool (decide (6 ≤ x13)))) rfl rfl hc12 rfl) ?_
      refine wpR_nil ?_
      exact ⟨decide (6 ≤ x13), ⟨rfl, e1, trivial⟩, h, rfl⟩
  clear h
  rintro c14 ρ wj ⟨e10, e1, -⟩ ⟨h, rfl⟩
  replace h := hk c14 h
  clear hk
  refine wpR_val (v := (Value.bool c14)) (w' := w1) rfl rfl rfl (x_move (v := (Value.bool c14)) rfl e10) ?_
  obtain ⟨J15, h, hk⟩ := h
  refine wpR_joinJ 4 (fun x ρ => ρ 15 = Value.bool x ∧ ρ 1 = (Value.pointer (some (Addr.mk b9 0 none))) ∧ True) (fun x w => J15 x ∧ w1 = w) ?_ ?_
  · clear hk
    rcases Bool.eq_false_or_eq_true (c14) with hc16 | hc16
    · replace h := h.1 hc16
      refine wpR_pass (wantN rfl rfl rfl hc16) rfl rfl ?_
      refine wpR_pass (wantN rfl rfl rfl hc16) rfl rfl ?_
      refine wpR_pass (wantN rfl rfl rfl hc16) rfl rfl ?_
      refine wpR_val (v := (Value.bool true)) (w' := w1) rfl rfl rfl (x_pickT (v := (Value.bool true)) rfl rfl hc16 rfl) ?_
      refine wpR_nil ?_
      exact ⟨true, ⟨rfl, e1, trivial⟩, h, rfl⟩
    · replace h := h.2 hc16
      refine wpR_val (v := (Value.pointer (some ((Addr.mk b9 0 none).add 1)))) (w' := w1) (wantG rfl rfl rfl hc16) rfl rfl (x_fieldAddr rfl e1 FA_46_1) ?_
      obtain ⟨x17, q17, h⟩ := h
      refine wpR_val (v := (Value.int .i64 x17)) (w' := w1) (wantG rfl rfl rfl hc16) rfl rfl (x_load1 rfl rfl SH_3 q17) ?_
      refine wpR_val (v := (Value.bool (decide (x17 < 0)))) (w' := w1) (wantG rfl rfl rfl hc16) rfl rfl (x_lss rfl rfl rfl) ?_
      refine wpR_val (v := (Value.bool (decide (x17 < 0)))) (w' := w1) rfl rfl rfl (x_pickF (v := (Value.bool (decide (x17 < 0)))) rfl rfl hc16 rfl) ?_
      refine wpR_nil ?_
      exact ⟨decide (x17 < 0), ⟨rfl, e1, trivial⟩, h, rfl⟩
  clear h
  rintro c18 ρ wj ⟨e15, e1, -⟩ ⟨h, rfl⟩
  replace h := hk c18 h
  clear hk
  refine wpR_val (v := (Value.bool c18)) (w' := w1) rfl rfl rfl (x_move (v := (Value.bool c18)) rfl e15) ?_
  obtain ⟨J19, h, hk⟩ := h
  refine wpR_joinJ 4 (fun x ρ => ρ 20 = Value.bool x ∧ True) (fun x w => J19 x ∧ w1 = w) ?_ ?_
  · clear hk
    rcases Bool.eq_false_or_eq_true (c18) with hc20 | hc20
    · replace h := h.1 hc20
      refine wpR_pass (wantN rfl rfl rfl hc20) rfl rfl ?_
      refine wpR_pass (wantN rfl rfl rfl hc20) rfl rfl ?_
      refine wpR_pass (wantN rfl rfl rfl hc20) rfl rfl ?_
      refine wpR_val (v := (Value.bool true)) (w' := w1) rfl rfl rfl (x_pickT (v := (Value.bool true)) rfl rfl hc20 rfl) ?_
      refine wpR_nil ?_
      exact ⟨true, ⟨rfl, trivial⟩, h, rfl⟩
    · replace h := h.2 hc20
      refine wpR_val (v := (Value.pointer (some ((Addr.mk b9 0 none).add 1)))) (w' := w1) (wantG rfl rfl rfl hc20) rfl rfl (x_fieldAddr rfl e1 FA_46_1) ?_
      obtain ⟨x21, q21, h⟩ := h
      refine wpR_val (v := (Value.int .i64 x21)) (w' := w1) (wantG rfl rfl rfl hc20) rfl rfl (x_load1 rfl rfl SH_3 q21) ?_
      refine wpR_val (v := (Value.bool (decide (3 ≤ x21)))) (w' := w1) (wantG rfl rfl rfl hc20) rfl rfl (x_geq rfl rfl rfl) ?_
      refine wpR_val (v := (Value.bool (decide (3 ≤ x21)))) (w' := w1) rfl rfl rfl (x_pickF (v := (Value.bool (decide (3 ≤ x21)))) rfl rfl hc20 rfl) ?_
      refine wpR_nil ?_
      exact ⟨decide (3 ≤ x21), ⟨rfl, trivial⟩, h, rfl⟩
  clear h
  rintro c22 ρ wj ⟨e20, -⟩ ⟨h, rfl⟩
  replace h := hk c22 h
  clear hk
  refine wpR_val (v := (Value.bool c22)) (w' := w1) rfl rfl rfl (x_assign (v := (Value.bool c22)) rfl e20) ?_
  refine wpR_nil ?_
  refine wpC_ret ?_
  exact ⟨.inl rfl, fun a ha => ⟨_, results_rep1 rfl ha rfl, c22, rfl, h⟩⟩

/-- slices.ContainsFunc[[]api.Way,api.Way] -/
def F49 (p0 : Sl) (p1 : Value) (w0 : World) (K : Bool → World → Prop) : Prop :=
  callC Try.prog 57 #[(Sl.v p0), p1] (fun (r : Int) => (Value.int .i64 r)) w0 fun r9 w1 =>
  K (decide (0 ≤ r9)) w1
set_option maxRecDepth 100000 in
theorem D49 (p0 : Sl) (p1 : Value) (w0 : World) (K : Bool → World → Prop) (h : F49 p0 p1 w0 K) : callC Try.prog 49 #[(Sl.v p0), p1] (fun (r : Bool) => (Value.bool r)) w0 K := by
  unfold F49 at h
  refine calls_of_wpC Try.func49 rfl 9 rfl (by simp) ?_
  intro ρ hρ
  have e0 : ρ 0 = (Sl.v p0) := hρ 0
  have e1 : ρ 1 = p1 := hρ 1
  clear hρ
  refine wpC_seq ?_
  refine wpC_region ?_
  refine wpR_val (v := (Value.bool false)) (w' := w0) rfl rfl rfl (x_assign (v := (Value.bool false)) rfl rfl) ?_
  refine wpR_nil ?_
  refine wpC_seq ?_
  refine wpC_cut (fun ρ => ρ 0 = (Sl.v p0) ∧ ρ 1 = p1 ∧ True) ⟨e0, e1, trivial⟩ ?_
  rintro ρ ⟨e0, e1, -⟩
  refine wpC_region ?_
  refine wpR_val (v := (Sl.v p0)) (w' := w0) rfl rfl rfl (x_move (v := (Sl.v p0)) rfl e0) ?_
  refine wpR_val (v := p1) (w' := w0) rfl rfl rfl (x_move (v := p1) rfl e1) ?_
  refine wpR_enter rfl rfl rfl (x_call (vs := [(Sl.v p0), p1]) rfl rfl (mapl_cons rfl (mapl_cons rfl mapl_nil)) Try.func57 NN_57 NB_57) (Calls.mono h ?_)
  rintro _ w1 ⟨r9, rfl, h⟩
  refine ⟨_, rfl, ?_⟩
  refine wpR_val (v := (Value.bool (decide (0 ≤ r9)))) (w' := w1) rfl rfl rfl (x_geq rfl rfl rfl) ?_
  refine wpR_val (v := (Value.bool (decide (0 ≤ r9)))) (w' := w1) rfl rfl rfl (x_assign (v := (Value.bool (decide (0 ≤ r9)))) rfl rfl) ?_
  refine wpR_nil ?_
  refine wpC_ret ?_
  exact ⟨.inl rfl, fun a ha => ⟨_, results_rep1 rfl ha rfl, decide (0 ≤ r9), rfl, h⟩⟩

/-- slices.Index[[]loss.option,loss.option] -/
def F51 (p0 : Sl) (p1_0 : Int) (p1_1 : Int) (p1_2 : Bool) (w0 : World) (K : Int → World → Prop) : Prop :=
  nw 55 #[(Value.int .i64 p1_0), (Value.int .i64 p1_1), (Value.bool p1_2)] w0 fun b9 w1 =>
  lp (fun (next10 : Int → World → Prop) l10 w2 =>
    cnd (decide (l10 < (p0.len : Int)))
      (
      jn (fun (J13 : Bool → World → Prop) => tk w2 fun w3 =>
        ld (Value.int .i64) ((Addr.mk b9 0 none).add 0) w3 fun x14 =>
        ld (Value.int .i64) ((Addr.mk b9 0 none).add 1) w3 fun x15 =>
        ld Value.bool ((Addr.mk b9 0 none).add 2) w3 fun x16 =>
        ix p0 l10 3 fun p17 =>
        ld (Value.int .i64) (p17.add 0) w3 fun x18 =>
        ld (Value.int .i64) (p17.add 1) w3 fun x19 =>
        ld Value.bool (p17.add 2) w3 fun x20 =>
        J13 ((decide (x14 = x18) && (decide (x15 = x19) && true)) && ((x16 == x20) && true)) w3
      )
      fun l21 w4 =>
      cnd (l21)
        (
        K l10 w4
        )
        (
        next10 (IntKind.i64.wrap (l10 + 1)) w4
        )
      )
      (
      K (-1) w2
      )
  ) 0 w1
set_option maxRecDepth 100000 in
theorem D51 (p0 : Sl) (p1_0 : Int) (p1_1 : Int) (p1_2 : Bool) (w0 : World) (K : Int → World → Prop) (h : F51 p0 p1_0 p1_1 p1_2 w0 K) : callC Try.prog 51 #[(Sl.v p0), (Value.agg #[(Value.int .i64 p1_0), (Value.int .i64 p1_1), (Value.bool p1_2)])] (fun (r : Int) => (Value.int .i64 r)) w0 K := by
  unfold F51 at h
  refine calls_of_wpC Try.func51 rfl 19 rfl (by simp) ?_
  intro ρ hρ
  have e0 : ρ 0 = (Sl.v p0) := hρ 0
  have e1 : ρ 1 = (Value.agg #[(Value.int .i64 p1_0), (Value.int .i64 p1_1), (Value.bool p1_2)]) := hρ 1
  clear hρ
  refine wpC_seq ?_
  refine wpC_region ?_
  obtain ⟨b9, hb9⟩ : ∃ u, u = w0.heap.size := ⟨_, rfl⟩
  obtain ⟨w1, hw9⟩ : ∃ u, u = w0.alloc (.cells #[(Value.int .i64 p1_0), (Value.int .i64 p1_1), (Value.bool p1_2)] 55) := ⟨_, rfl⟩
  replace h := h b9 w1 hb9 hw9
  refine wpR_val (v := (Value.pointer (some (Addr.mk b9 0 none)))) (w' := w1) rfl rfl rfl ((x_box (v := (Value.agg #[(Value.int .i64 p1_0), (Value.int .i64 p1_1), (Value.bool p1_2)])) rfl e1).trans (by rw [hb9, hw9]; rfl)) ?_
  refine wpR_val (v := (Value.int .i64 0)) (w' := w1) rfl rfl rfl (x_assign (v := (Value.int .i64 0)) rfl rfl) ?_
  refine wpR_nil ?_
  refine wpC_seq ?_
  refine wpC_seq ?_
  refine wpC_cut (fun ρ => ρ 0 = (Sl.v p0) ∧ ρ 3 = (Value.pointer (some (Addr.mk b9 0 none))) ∧ True) ⟨e0, rfl, trivial⟩ ?_
  rintro ρ ⟨e0, e3, -⟩
  refine wpC_region ?_
  refine wpR_val (v := (Sl.v p0)) (w' := w1) rfl rfl rfl (x_move (v := (Sl.v p0)) rfl e0) ?_
  refine wpR_val (v := (Value.int .i64 (p0.len : Int))) (w' := w1) rfl rfl rfl (x_lenS (s := p0) rfl rfl isSliceT_51) ?_
  refine wpR_val (v := (Value.int .i64 0)) (w' := w1) rfl rfl rfl (x_move (v := (Value.int .i64 0)) rfl rfl) ?_
  refine wpR_nil ?_
  refine wpC_block ?_
  obtain ⟨I10, μ10, hI10, hr10⟩ := h
  refine wpC_loop (fun (x : Int) ρ => ρ 8 = (Value.int .i64 x) ∧ ρ 0 = (Sl.v p0) ∧ ρ 3 = (Value.pointer (some (Addr.mk b9 0 none))) ∧ ρ 7 = (Value.int .i64 (p0.len : Int)) ∧ True) I10 μ10 0 ⟨rfl, e0, e3, rfl, trivial⟩ hI10 ?_
  rintro l10 ρ w2 ⟨e8, e0, e3, e7, -⟩ h
  replace h := hr10 l10 w2 h
  clear hr10 hI10
  refine wpC_seq ?_
  refine wpC_region ?_
  refine wpR_val (v := (Value.bool (decide (l10 < (p0.len : Int))))) (w' := w2) rfl rfl rfl (x_lss rfl e8 e7) ?_
  refine wpR_nil ?_
  refine wpC_seq ?_
  refine wpC_cond (b := decide (l10 < (p0.len : Int))) rfl (fun hc11 => ?_) (fun hc11 => ?_)
  · replace h := h.1 hc11
    refine wpC_skip ?_
    refine wpC_seq ?_
    refine wpC_block ?_
    refine wpC_seq ?_
    refine wpC_cut (fun ρ => ρ 0 = (Sl.v p0) ∧ ρ 3 = (Value.pointer (some (Addr.mk b9 0 none))) ∧ ρ 7 = (Value.int .i64 (p0.len : Int)) ∧ ρ 8 = (Value.int .i64 l10) ∧ True) ⟨e0, e3, e7, e8, trivial⟩ ?_
    rintro ρ ⟨e0, e3, e7, e8, -⟩
    refine wpC_region ?_
    refine wpR_val (v := (Value.int .i64 l10)) (w' := w2) rfl rfl rfl (x_move (v := (Value.int .i64 l10)) rfl e8) ?_
    refine wpR_val (v := (Value.int .i64 l10)) (w' := w2) rfl rfl rfl (x_assign (v := (Value.int .i64 l10)) rfl rfl) ?_
    refine wpR_nil ?_
    refine wpC_seq ?_
    refine wpC_cut (fun ρ => ρ 0 = (Sl.v p0) ∧ ρ 3 = (Value.pointer (some (Addr.mk b9 0 none))) ∧ ρ 5 = (Value.int .i64 l10) ∧ ρ 7 = (Value.int .i64 (p0.len : Int)) ∧ ρ 8 = (Value.int .i64 l10) ∧ True) ⟨e0, e3, rfl, e7, e8, trivial⟩ ?_
    rintro ρ ⟨e0, e3, e5, e7, e8, -⟩
    obtain ⟨J13, h, hk⟩ := h
    refine wpC_drawJ (by kernel_rfl) (fun (x : Bool) ρ => ρ 16 = (Value.bool x) ∧ ρ 0 = (Sl.v p0) ∧ ρ 3 = (Value.pointer (some (Addr.mk b9 0 none))) ∧ ρ 5 = (Value.int .i64 l10) ∧ ρ 7 = (Value.int .i64 (p0.len : Int)) ∧ ρ 8 = (Value.int .i64 l10) ∧ True) J13 ?_ ?_
    · clear hk
      unfold tk at h
      generalize w2.drew = w3 at h ⊢
      obtain ⟨x14, q14, x15, q15, x16, q16, h⟩ := h
      refine wpD_take (v := (Value.agg #[(Value.int .i64 x14), (Value.int .i64 x15), (Value.bool x16)])) 0 (fun w => w.cell? ((Addr.mk b9 0 none).add 0) = some (Value.int .i64 x14) ∧ w.cell? ((Addr.mk b9 0 none).add 1) = some (Value.int .i64 x15) ∧ w.cell? ((Addr.mk b9 0 none).add 2) = some (Value.bool x16)) rfl (by kernel_rfl) (by kernel_rfl) (by kernel_rfl) rfl rfl rfl ⟨q14, q15, q16⟩ (fun w ⟨q14, q15, q16⟩ => (x_loadN [(Value.int .i64 x14), (Value.int .i64 x15), (Value.bool x16)] rfl e3 SH_55 (CellsAt.out (CellsAt.cons q14 (CellsAt.cons q15 (CellsAt.cons q16 CellsAt.nil)))))) ?_
      refine wpD_take (v := (Sl.v p0)) 1 (fun _ => True) rfl (by kernel_rfl) (by kernel_rfl) (by kernel_rfl) rfl rfl rfl trivial (fun w _ => (x_move (v := (Sl.v p0)) rfl e0)) ?_
      refine wpD_take (v := (Value.int .i64 l10)) 2 (fun _ => True) rfl (by kernel_rfl) (by kernel_rfl) (by kernel_rfl) rfl rfl rfl trivial (fun w _ => (x_move (v := (Value.int .i64 l10)) rfl e5)) ?_
      obtain ⟨q17, z17, r17, h⟩ := h
      generalize hp17 : z17.add ((l10 : Int).toNat * 3) = p17 at h
      refine wpD_take (v := (Value.pointer (some p17))) 3 (fun _ => True) rfl (by kernel_rfl) (by kernel_rfl) (by kernel_rfl) rfl rfl rfl trivial (fun w _ => ((x_indexAddr (s := p0) rfl rfl rfl ES_51 q17 r17).trans (by rw [hp17]))) ?_
      obtain ⟨x18, q18, x19, q19, x20, q20, h⟩ := h
      refine wpD_take (v := (Value.agg #[(Value.int .i64 x18), (Value.int .i64 x19), (Value.bool x20)])) 4 (fun w => w.cell? (p17.add 0) = some (Value.int .i64 x18) ∧ w.cell? (p17.add 1) = some (Value.int .i64 x19) ∧ w.cell? (p17.add 2) = some (Value.bool x20)) rfl (by kernel_rfl) (by kernel_rfl) (by kernel_rfl) rfl rfl rfl ⟨q18, q19, q20⟩ (fun w ⟨q18, q19, q20⟩ => (x_loadN [(Value.int .i64 x18), (Value.int .i64 x19), (Value.bool x20)] rfl rfl SH_55 (CellsAt.out (CellsAt.cons q18 (CellsAt.cons q19 (CellsAt.cons q20 CellsAt.nil)))))) ?_
      refine wpD_take (v := (Value.bool ((decide (x14 = x18) && (decide (x15 = x19) && true)) && ((x16 == x20) && true)))) 5 (fun _ => True) rfl (by kernel_rfl) (by kernel_rfl) (by kernel_rfl) rfl rfl rfl trivial (fun w _ => (x_eqlA rfl rfl rfl EQ1_55 EQ2_55 EQ3_55 (EQ_55 x14 x15 x16 x18 x19 x20))) ?_
      exact wpD_done (by kernel_rfl) ⟨((decide (x14 = x18) && (decide (x15 = x19) && true)) && ((x16 == x20) && true)), ⟨rfl, e0, e3, e5, e7, e8, trivial⟩, h⟩
    clear h
    rintro l21 ρ w4 ⟨e16, e0, e3, e5, e7, e8, -⟩ h
    replace h := hk l21 w4 h
    clear hk
    refine wpC_cond (b := l21) e16 (fun hc22 => ?_) (fun hc22 => ?_)
    · replace h := h.1 hc22
      refine wpC_seq ?_
      refine wpC_region ?_
      refine wpR_val (v := (Value.int .i64 l10)) (w' := w4) rfl rfl rfl (x_move (v := (Value.int .i64 l10)) rfl e5) ?_
      refine wpR_val (v := (Value.int .i64 l10)) (w' := w4) rfl rfl rfl (x_assign (v := (Value.int .i64 l10)) rfl rfl) ?_
      refine wpR_nil ?_
      refine wpC_ret ?_
      exact ⟨.inl rfl, fun a ha => ⟨_, results_rep1 rfl ha rfl, l10, rfl, h⟩⟩
    · replace h := h.2 hc22
      refine wpC_skip ?_
      refine wpC_region ?_
      refine wpR_val (v := (Value.int .i64 (IntKind.i64.wrap (l10 + 1)))) (w' := w4) rfl rfl rfl (x_add rfl e8 rfl) ?_
      refine wpR_val (v := (Value.int .i64 (IntKind.i64.wrap (l10 + 1)))) (w' := w4) rfl rfl rfl (x_move (v := (Value.int .i64 (IntKind.i64.wrap (l10 + 1)))) rfl rfl) ?_
      refine wpR_nil ?_
      exact ⟨IntKind.i64.wrap (l10 + 1), ⟨rfl, e0, e3, e7, trivial⟩, h⟩
  · replace h := h.2 hc11
    refine wpC_exit ?_
    refine wpC_seq ?_
    refine wpC_cut (fun ρ => True) trivial ?_
    rintro ρ -
    refine wpC_region ?_
    refine wpR_val (v := (Value.int .i64 (-1))) (w' := w2) rfl rfl rfl (x_assign (v := (Value.int .i64 (-1))) rfl rfl) ?_
    refine wpR_nil ?_
    refine wpC_ret ?_
    exact ⟨.inl rfl, fun a ha => ⟨_, results_rep1 rfl ha rfl, (-1), rfl, h⟩⟩

/-- lex.Word -/
def F53 (p0 : ByteArray) (w0 : World) (K : Bool → World → Prop) : Prop :=
  jn (fun J9 => cnd (beqS p0 (ByteArray.mk #[]))
    (
    J9 true w0
    )
    (
    rn Try.prog (Instr.index 9 (Value.string p0) (Value.int .i64 0)) (fun (r : Int) => (Value.int .u8 r)) w0 fun r11 w1 =>
    callC Try.prog 60 #[(Value.int .u8 r11)] (fun (r : Bool) => (Value.bool r)) w1 fun r12 w2 =>
    J9 (!r12) w2
    ))
  fun c13 w3 =>
  cnd (c13 || (decide (20 < (p0.size : Int))))
    (
    K false w3
    )
    (
    callC Try.prog 61 #[(Value.string p0), (Value.func (.func 62) #[] #[])] (fun (r : Int) => (Value.int .i64 r)) w3 fun r17 w4 =>
    K (decide (r17 = (p0.size : Int))) w4
    )
set_option maxRecDepth 100000 in
theorem D53 (p0 : ByteArray) (w0 : World) (K : Bool → World → Prop) (h : F53 p0 w0 K) : callC Try.prog 53 #[(Value.string p0)] (fun (r : Bool) => (Value.bool r)) w0 K := by
  unfold F53 at h
  refine calls_of_wpC Try.func53 rfl 21 rfl (by simp) ?_
  intro ρ hρ
  have e0 : ρ 0 = (Value.string p0) := hρ 0
  clear hρ
  refine wpC_seq ?_
  refine wpC_region ?_
  refine wpR_val (v := (Value.bool false)) (w' := w0) rfl rfl rfl (x_assign (v := (Value.bool false)) rfl rfl) ?_
  refine wpR_nil ?_
  refine wpC_seq ?_
  refine wpC_seq ?_
  refine wpC_cut (fun ρ => ρ 0 = (Value.string p0) ∧ True) ⟨e0, trivial⟩ ?_
  rintro ρ ⟨e0, -⟩
  refine wpC_region ?_
  refine wpR_val (v := (Value.string p0)) (w' := w0) rfl rfl rfl (x_move (v := (Value.string p0)) rfl e0) ?_
  refine wpR_val (v := (Value.bool (beqS p0 (ByteArray.mk #[])))) (w' := w0) rfl rfl rfl (x_eqlS rfl rfl rfl) ?_
  refine wpR_val (v := (Value.bool (beqS p0 (ByteArray.mk #[])))) (w' := w0) rfl rfl rfl (x_move (v := (Value.bool (beqS p0 (ByteArray.mk #[])))) rfl rfl) ?_
  obtain ⟨J9, h, hk⟩ := h
  refine wpR_joinJ 5 (fun x ρ => ρ 10 = Value.bool x ∧ ρ 0 = (Value.string p0) ∧ True) (J9) ?_ ?_
  · clear hk
    rcases Bool.eq_false_or_eq_true (beqS p0 (ByteArray.mk #[])) with hc10 | hc10
    · replace h := h.1 hc10
      refine wpR_pass (wantN rfl rfl rfl hc10) rfl rfl ?_
      refine wpR_pass (wantN rfl rfl rfl hc10) rfl rfl ?_
      refine wpR_pass (wantN rfl rfl rfl hc10) rfl rfl ?_
      refine wpR_pass (wantN rfl rfl rfl hc10) rfl rfl ?_
      refine wpR_val (v := (Value.bool true)) (w' := w0) rfl rfl rfl (x_pickT (v := (Value.bool true)) rfl rfl hc10 rfl) ?_
      refine wpR_nil ?_
      exact ⟨true, ⟨rfl, e0, trivial⟩, h⟩
    · replace h := h.2 hc10
      refine wpR_val (v := (Value.string p0)) (w' := w0) (wantG rfl rfl rfl hc10) rfl rfl (x_move (v := (Value.string p0)) rfl e0) ?_
      obtain ⟨r11, w1, q11, h⟩ := h
      refine wpR_val (v := (Value.int .u8 r11)) (w' := w1) (wantG rfl rfl rfl hc10) rfl rfl (x_index rfl rfl rfl q11) ?_
      refine wpR_enter (wantG rfl rfl rfl hc10) rfl rfl (x_call (vs := [(Value.int .u8 r11)]) rfl rfl (mapl_cons rfl mapl_nil) Try.func60 NN_60 NB_60) (Calls.mono h ?_)
      rintro _ w2 ⟨r12, rfl, h⟩
      refine ⟨_, rfl, ?_⟩
      refine wpR_val (v := (Value.bool (!r12))) (w' := w2) (wantG rfl rfl rfl hc10) rfl rfl (x_not rfl rfl) ?_
      refine wpR_val (v := (Value.bool (!r12))) (w' := w2) rfl rfl rfl (x_pickF (v := (Value.bool (!r12))) rfl rfl hc10 rfl) ?_
      refine wpR_nil ?_
      exact ⟨!r12, ⟨rfl, e0, trivial⟩, h⟩
  clear h
  rintro c13 ρ w3 ⟨e10, e0, -⟩ h
  replace h := hk c13 w3 h
  clear hk
  refine wpR_val (v := (Value.bool c13)) (w' := w3) rfl rfl rfl (x_move (v := (Value.bool c13)) rfl e10) ?_
  refine wpR_joinJ 4 (fun (_ : Unit) ρ => ρ 15 = Value.bool (c13 || (decide (20 < (p0.size : Int)))) ∧ ρ 0 = (Value.string p0) ∧ True) (fun _ w => w3 = w) ?_ ?_
  · clear h
    rcases Bool.eq_false_or_eq_true (c13) with hc15 | hc15
    · skip
      refine wpR_pass (wantN rfl rfl rfl hc15) rfl rfl ?_
      refine wpR_pass (wantN rfl rfl rfl hc15) rfl rfl ?_
      refine wpR_pass (wantN rfl rfl rfl hc15) rfl rfl ?_
      refine wpR_val (v := (Value.bool true)) (w' := w3) rfl rfl rfl (x_pickT (v := (Value.bool true)) rfl rfl hc15 rfl) ?_
      refine wpR_nil ?_
      exact ⟨(), ⟨(by rw [hc15]; rfl), e0, trivial⟩, rfl⟩
    · skip
      refine wpR_val (v := (Value.string p0)) (w' := w3) (wantG rfl rfl rfl hc15) rfl rfl (x_move (v := (Value.string p0)) rfl e0) ?_
      refine wpR_val (v := (Value.int .i64 (p0.size : Int))) (w' := w3) (wantG rfl rfl rfl hc15) rfl rfl (x_lenStr rfl rfl isStrT_9) ?_
      refine wpR_val (v := (Value.bool (decide (20 < (p0.size : Int))))) (w' := w3) (wantG rfl rfl rfl hc15) rfl rfl (x_gtr rfl rfl rfl) ?_
      refine wpR_val (v := (Value.bool (decide (20 < (p0.size : Int))))) (w' := w3) rfl rfl rfl (x_pickF (v := (Value.bool (decide (20 < (p0.size : Int))))) rfl rfl hc15 rfl) ?_
      refine wpR_nil ?_
      exact ⟨(), ⟨(by rw [hc15]; rfl), e0, trivial⟩, rfl⟩
  rintro _ ρ wj ⟨e15, e0, -⟩ rfl
  refine wpR_nil ?_
  refine wpC_cond (b := c13 || (decide (20 < (p0.size : Int)))) e15 (fun hc16 => ?_) (fun hc16 => ?_)
  · replace h := h.1 hc16
    refine wpC_seq ?_
    refine wpC_region ?_
    refine wpR_val (v := (Value.bool false)) (w' := w3) rfl rfl rfl (x_assign (v := (Value.bool false)) rfl rfl) ?_
    refine wpR_nil ?_
    refine wpC_ret ?_
    exact ⟨.inl rfl, fun a ha => ⟨_, results_rep1 rfl ha rfl, false, rfl, h⟩⟩
  · replace h := h.2 hc16
    refine wpC_skip ?_
    refine wpC_seq ?_
    refine wpC_region ?_
    refine wpR_val (v := (Value.string p0)) (w' := w3) rfl rfl rfl (x_move (v := (Value.string p0)) rfl e0) ?_
    refine wpR_enter rfl rfl rfl (x_call (vs := [(Value.string p0), (Value.func (.func 62) #[] #[])]) rfl rfl (mapl_cons rfl (mapl_cons rfl mapl_nil)) Try.func61 NN_61 NB_61) (Calls.mono h ?_)
    rintro _ w4 ⟨r17, rfl, h⟩
    refine ⟨_, rfl, ?_⟩
    refine wpR_val (v := (Value.string p0)) (w' := w4) rfl rfl rfl (x_move (v := (Value.string p0)) rfl e0) ?_
    refine wpR_val (v := (Value.int .i64 (p0.size : Int))) (w' := w4) rfl rfl rfl (x_lenStr rfl rfl isStrT_9) ?_
    refine wpR_val (v := (Value.bool (decide (r17 = (p0.size : Int))))) (w' := w4) rfl rfl rfl (x_eql rfl rfl rfl) ?_
    refine wpR_val (v := (Value.bool (decide (r17 = (p0.size : Int))))) (w' := w4) rfl rfl rfl (x_assign (v := (Value.bool (decide (r17 = (p0.size : Int))))) rfl rfl) ?_
    refine wpR_nil ?_
    refine wpC_ret ?_
    exact ⟨.inl rfl, fun a ha => ⟨_, results_rep1 rfl ha rfl, decide (r17 = (p0.size : Int)), rfl, h⟩⟩

/-- syntax.Right$1 -/
def F54 (p0 : ByteArray) (w0 : World) (K : Bool → World → Prop) : Prop :=
  callC Try.prog 53 #[(Value.string p0)] (fun (r : Bool) => (Value.bool r)) w0 fun r9 w1 =>
  K (!r9) w1
set_option maxRecDepth 100000 in
theorem D54 (p0 : ByteArray) (w0 : World) (K : Bool → World → Prop) (h : F54 p0 w0 K) : callC Try.prog 54 #[(Value.string p0)] (fun (r : Bool) => (Value.bool r)) w0 K := by
  unfold F54 at h
  refine calls_of_wpC Try.func54 rfl 6 rfl (by simp) ?_
  intro ρ hρ
  have e0 : ρ 0 = (Value.string p0) := hρ 0
  clear hρ
  refine wpC_seq ?_
  refine wpC_region ?_
  refine wpR_val (v := (Value.bool false)) (w' := w0) rfl rfl rfl (x_assign (v := (Value.bool false)) rfl rfl) ?_
  refine wpR_nil ?_
  refine wpC_seq ?_
  refine wpC_cut (fun ρ => ρ 0 = (Value.string p0) ∧ True) ⟨e0, trivial⟩ ?_
  rintro ρ ⟨e0, -⟩
  refine wpC_region ?_
  refine wpR_val (v := (Value.string p0)) (w' := w0) rfl rfl rfl (x_move (v := (Value.string p0)) rfl e0) ?_
  refine wpR_enter rfl rfl rfl (x_call (vs := [(Value.string p0)]) rfl rfl (mapl_cons rfl mapl_nil) Try.func53 NN_53 NB_53) (Calls.mono h ?_)
  rintro _ w1 ⟨r9, rfl, h⟩
  refine ⟨_, rfl, ?_⟩
  refine wpR_val (v := (Value.bool (!r9))) (w' := w1) rfl rfl rfl (x_not rfl rfl) ?_
  refine wpR_val (v := (Value.bool (!r9))) (w' := w1) rfl rfl rfl (x_assign (v := (Value.bool (!r9))) rfl rfl) ?_
  refine wpR_nil ?_
  refine wpC_ret ?_
  exact ⟨.inl rfl, fun a ha => ⟨_, results_rep1 rfl ha rfl, !r9, rfl, h⟩⟩

/-- slices.Index[[]string,string] -/
def F55 (p0 : Sl) (p1 : ByteArray) (w0 : World) (K : Int → World → Prop) : Prop :=
  lp (fun (next9 : Int → World → Prop) l9 w1 =>
    cnd (decide (l9 < (p0.len : Int)))
      (
      ix p0 l9 1 fun p11 =>
      ld Value.string p11 w1 fun x12 =>
      cnd (beqS p1 x12)
        (
        K l9 w1
        )
        (
        next9 (IntKind.i64.wrap (l9 + 1)) w1
        )
      )
      (
      K (-1) w1
      )
  ) 0 w0
set_option maxRecDepth 100000 in
theorem D55 (p0 : Sl) (p1 : ByteArray) (w0 : World) (K : Int → World → Prop) (h : F55 p0 p1 w0 K) : callC Try.prog 55 #[(Sl.v p0), (Value.string p1)] (fun (r : Int) => (Value.int .i64 r)) w0 K := by
  unfold F55 at h
  refine calls_of_wpC Try.func55 rfl 19 rfl (by simp) ?_
  intro ρ hρ
  have e0 : ρ 0 = (Sl.v p0) := hρ 0
  have e1 : ρ 1 = (Value.string p1) := hρ 1
  clear hρ
  refine wpC_seq ?_
  refine wpC_region ?_
  refine wpR_val (v := (Value.int .i64 0)) (w' := w0) rfl rfl rfl (x_assign (v := (Value.int .i64 0)) rfl rfl) ?_
  refine wpR_nil ?_
  refine wpC_seq ?_
  refine wpC_seq ?_
  refine wpC_cut (fun ρ => ρ 0 = (Sl.v p0) ∧ ρ 1 = (Value.string p1) ∧ True) ⟨e0, e1, trivial⟩ ?_
  rintro ρ ⟨e0, e1, -⟩
  refine wpC_region ?_
  refine wpR_val (v := (Sl.v p0)) (w' := w0) rfl rfl rfl (x_move (v := (Sl.v p0)) rfl e0) ?_
  refine wpR_val (v := (Value.int .i64 (p0.len : Int))) (w' := w0) rfl rfl rfl (x_lenS (s := p0) rfl rfl isSliceT_22) ?_
  refine wpR_val (v := (Value.int .i64 0)) (w' := w0) rfl rfl rfl (x_move (v := (Value.int .i64 0)) rfl rfl) ?_
  refine wpR_nil ?_
  refine wpC_block ?_
  obtain ⟨I9, μ9, hI9, hr9⟩ := h
  refine wpC_loop (fun (x : Int) ρ => ρ 8 = (Value.int .i64 x) ∧ ρ 0 = (Sl.v p0) ∧ ρ 1 = (Value.string p1) ∧ ρ 7 = (Value.int .i64 (p0.len : Int)) ∧ True) I9 μ9 0 ⟨rfl, e0, e1, rfl, trivial⟩ hI9 ?_
  rintro l9 ρ w1 ⟨e8, e0, e1, e7, -⟩ h
  replace h := hr9 l9 w1 h
  clear hr9 hI9
  refine wpC_seq ?_
  refine wpC_region ?_
  refine wpR_val (v := (Value.bool (decide (l9 < (p0.len : Int))))) (w' := w1) rfl rfl rfl (x_lss rfl e8 e7) ?_
  refine wpR_nil ?_
  refine wpC_seq ?_
  refine wpC_cond (b := decide (l9 < (p0.len : Int))) rfl (fun hc10 => ?_) (fun hc10 => ?_)
  · replace h := h.1 hc10
    refine wpC_skip ?_
    refine wpC_seq ?_
    refine wpC_block ?_
    refine wpC_seq ?_
    refine wpC_cut (fun ρ => ρ 0 = (Sl.v p0) ∧ ρ 1 = (Value.string p1) ∧ ρ 7 = (Value.int .i64 (p0.len : Int)) ∧ ρ 8 = (Value.int .i64 l9) ∧ True) ⟨e0, e1, e7, e8, trivial⟩ ?_
    rintro ρ ⟨e0, e1, e7, e8, -⟩
    refine wpC_region ?_
    refine wpR_val (v := (Value.int .i64 l9)) (w' := w1) rfl rfl rfl (x_move (v := (Value.int .i64 l9)) rfl e8) ?_
    refine wpR_val (v := (Value.int .i64 l9)) (w' := w1) rfl rfl rfl (x_assign (v := (Value.int .i64 l9)) rfl rfl) ?_
    refine wpR_nil ?_
    refine wpC_seq ?_
    refine wpC_cut (fun ρ => ρ 0 = (Sl.v p0) ∧ ρ 1 = (Value.string p1) ∧ ρ 5 = (Value.int .i64 l9) ∧ ρ 7 = (Value.int .i64 (p0.len : Int)) ∧ ρ 8 = (Value.int .i64 l9) ∧ True) ⟨e0, e1, rfl, e7, e8, trivial⟩ ?_
    rintro ρ ⟨e0, e1, e5, e7, e8, -⟩
    refine wpC_region ?_
    refine wpR_val (v := (Value.string p1)) (w' := w1) rfl rfl rfl (x_move (v := (Value.string p1)) rfl e1) ?_
    refine wpR_val (v := (Sl.v p0)) (w' := w1) rfl rfl rfl (x_move (v := (Sl.v p0)) rfl e0) ?_
    refine wpR_val (v := (Value.int .i64 l9)) (w' := w1) rfl rfl rfl (x_move (v := (Value.int .i64 l9)) rfl e5) ?_
    obtain ⟨q11, z11, r11, h⟩ := h
    generalize hp11 : z11.add ((l9 : Int).toNat * 1) = p11 at h
    refine wpR_val (v := (Value.pointer (some p11))) (w' := w1) rfl rfl rfl ((x_indexAddr (s := p0) rfl rfl rfl ES_22 q11 r11).trans (by rw [hp11])) ?_
    obtain ⟨x12, q12, h⟩ := h
    refine wpR_val (v := (Value.string x12)) (w' := w1) rfl rfl rfl (x_load1 rfl rfl SH_9 q12) ?_
    refine wpR_val (v := (Value.bool (beqS p1 x12))) (w' := w1) rfl rfl rfl (x_eqlS rfl rfl rfl) ?_
    refine wpR_nil ?_
    refine wpC_cond (b := beqS p1 x12) rfl (fun hc13 => ?_) (fun hc13 => ?_)
    · replace h := h.1 hc13
      refine wpC_seq ?_
      refine wpC_cut (fun ρ => ρ 5 = (Value.int .i64 l9) ∧ True) ⟨e5, trivial⟩ ?_
      rintro ρ ⟨e5, -⟩
      refine wpC_region ?_
      refine wpR_val (v := (Value.int .i64 l9)) (w' := w1) rfl rfl rfl (x_move (v := (Value.int .i64 l9)) rfl e5) ?_
      refine wpR_val (v := (Value.int .i64 l9)) (w' := w1) rfl rfl rfl (x_assign (v := (Value.int .i64 l9)) rfl rfl) ?_
      refine wpR_nil ?_
      refine wpC_ret ?_
      exact ⟨.inl rfl, fun a ha => ⟨_, results_rep1 rfl ha rfl, l9, rfl, h⟩⟩
    · replace h := h.2 hc13
      refine wpC_skip ?_
      refine wpC_cut (fun ρ => ρ 0 = (Sl.v p0) ∧ ρ 1 = (Value.string p1) ∧ ρ 7 = (Value.int .i64 (p0.len : Int)) ∧ ρ 8 = (Value.int .i64 l9) ∧ True) ⟨e0, e1, e7, e8, trivial⟩ ?_
      rintro ρ ⟨e0, e1, e7, e8, -⟩
      refine wpC_region ?_
      refine wpR_val (v := (Value.int .i64 (IntKind.i64.wrap (l9 + 1)))) (w' := w1) rfl rfl rfl (x_add rfl e8 rfl) ?_
      refine wpR_val (v := (Value.int .i64 (IntKind.i64.wrap (l9 + 1)))) (w' := w1) rfl rfl rfl (x_move (v := (Value.int .i64 (IntKind.i64.wrap (l9 + 1)))) rfl rfl) ?_
      refine wpR_nil ?_
      exact ⟨IntKind.i64.wrap (l9 + 1), ⟨rfl, e0, e1, e7, trivial⟩, h⟩
  · replace h := h.2 hc10
    refine wpC_exit ?_
    refine wpC_seq ?_
    refine wpC_cut (fun ρ => True) trivial ?_
    rintro ρ -
    refine wpC_region ?_
    refine wpR_val (v := (Value.int .i64 (-1))) (w' := w1) rfl rfl rfl (x_assign (v := (Value.int .i64 (-1))) rfl rfl) ?_
    refine wpR_nil ?_
    refine wpC_ret ?_
    exact ⟨.inl rfl, fun a ha => ⟨_, results_rep1 rfl ha rfl, (-1), rfl, h⟩⟩

/-- slices.IndexFunc[[]string,string] -/
def F56 (p0 : Sl) (p1 : Value) (w0 : World) (K : Int → World → Prop) : Prop :=
  lp (fun (next9 : Int → World → Prop) l9 w1 =>
    cnd (decide (l9 < (p0.len : Int)))
      (
      ix p0 l9 1 fun p11 =>
      ld Value.string p11 w1 fun x12 =>
      cv Try.prog p1 [(Value.string x12)] (fun (r : Bool) => (Value.bool r)) w1 fun r13 w2 =>
      cnd (r13)
        (
        K l9 w2
        )
        (
        next9 (IntKind.i64.wrap (l9 + 1)) w2
        )
      )
      (
      K (-1) w1
      )
  ) 0 w0
set_option maxRecDepth 100000 in
theorem D56 (p0 : Sl) (p1 : Value) (w0 : World) (K : Int → World → Prop) (h : F56 p0 p1 w0 K) : callC Try.prog 56 #[(Sl.v p0), p1] (fun (r : Int) => (Value.int .i64 r)) w0 K := by
  unfold F56 at h
  refine calls_of_wpC Try.func56 rfl 19 rfl (by simp) ?_
  intro ρ hρ
  have e0 : ρ 0 = (Sl.v p0) := hρ 0
  have e1 : ρ 1 = p1 := hρ 1
  clear hρ
  refine wpC_seq ?_
  refine wpC_region ?_
  refine wpR_val (v := (Value.int .i64 0)) (w' := w0) rfl rfl rfl (x_assign (v := (Value.int .i64 0)) rfl rfl) ?_
  refine wpR_nil ?_
  refine wpC_seq ?_
  refine wpC_seq ?_
  refine wpC_cut (fun ρ => ρ 0 = (Sl.v p0) ∧ ρ 1 = p1 ∧ True) ⟨e0, e1, trivial⟩ ?_
  rintro ρ ⟨e0, e1, -⟩
  refine wpC_region ?_
  refine wpR_val (v := (Sl.v p0)) (w' := w0) rfl rfl rfl (x_move (v := (Sl.v p0)) rfl e0) ?_
  refine wpR_val (v := (Value.int .i64 (p0.len : Int))) (w' := w0) rfl rfl rfl (x_lenS (s := p0) rfl rfl isSliceT_22) ?_
  refine wpR_val (v := (Value.int .i64 0)) (w' := w0) rfl rfl rfl (x_move (v := (Value.int .i64 0)) rfl rfl) ?_
  refine wpR_nil ?_
  refine wpC_block ?_
  obtain ⟨I9, μ9, hI9, hr9⟩ := h
  refine wpC_loop (fun (x : Int) ρ => ρ 8 = (Value.int .i64 x) ∧ ρ 0 = (Sl.v p0) ∧ ρ 1 = p1 ∧ ρ 7 = (Value.int .i64 (p0.len : Int)) ∧ True) I9 μ9 0 ⟨rfl, e0, e1, rfl, trivial⟩ hI9 ?_
  rintro l9 ρ w1 ⟨e8, e0, e1, e7, -⟩ h
  replace h := hr9 l9 w1 h
  clear hr9 hI9
  refine wpC_seq ?_
  refine wpC_region ?_
  refine wpR_val (v := (Value.bool (decide (l9 < (p0.len : Int))))) (w' := w1) rfl rfl rfl (x_lss rfl e8 e7) ?_
  refine wpR_nil ?_
  refine wpC_seq ?_
  refine wpC_cond (b := decide (l9 < (p0.len : Int))) rfl (fun hc10 => ?_) (fun hc10 => ?_)
  · replace h := h.1 hc10
    refine wpC_skip ?_
    refine wpC_seq ?_
    refine wpC_block ?_
    refine wpC_seq ?_
    refine wpC_cut (fun ρ => ρ 0 = (Sl.v p0) ∧ ρ 1 = p1 ∧ ρ 7 = (Value.int .i64 (p0.len : Int)) ∧ ρ 8 = (Value.int .i64 l9) ∧ True) ⟨e0, e1, e7, e8, trivial⟩ ?_
    rintro ρ ⟨e0, e1, e7, e8, -⟩
    refine wpC_region ?_
    refine wpR_val (v := (Value.int .i64 l9)) (w' := w1) rfl rfl rfl (x_move (v := (Value.int .i64 l9)) rfl e8) ?_
    refine wpR_val (v := (Value.int .i64 l9)) (w' := w1) rfl rfl rfl (x_assign (v := (Value.int .i64 l9)) rfl rfl) ?_
    refine wpR_nil ?_
    refine wpC_seq ?_
    refine wpC_cut (fun ρ => ρ 0 = (Sl.v p0) ∧ ρ 1 = p1 ∧ ρ 5 = (Value.int .i64 l9) ∧ ρ 7 = (Value.int .i64 (p0.len : Int)) ∧ ρ 8 = (Value.int .i64 l9) ∧ True) ⟨e0, e1, rfl, e7, e8, trivial⟩ ?_
    rintro ρ ⟨e0, e1, e5, e7, e8, -⟩
    refine wpC_region ?_
    refine wpR_val (v := p1) (w' := w1) rfl rfl rfl (x_move (v := p1) rfl e1) ?_
    refine wpR_val (v := (Sl.v p0)) (w' := w1) rfl rfl rfl (x_move (v := (Sl.v p0)) rfl e0) ?_
    refine wpR_val (v := (Value.int .i64 l9)) (w' := w1) rfl rfl rfl (x_move (v := (Value.int .i64 l9)) rfl e5) ?_
    obtain ⟨q11, z11, r11, h⟩ := h
    generalize hp11 : z11.add ((l9 : Int).toNat * 1) = p11 at h
    refine wpR_val (v := (Value.pointer (some p11))) (w' := w1) rfl rfl rfl ((x_indexAddr (s := p0) rfl rfl rfl ES_22 q11 r11).trans (by rw [hp11])) ?_
    obtain ⟨x12, q12, h⟩ := h
    refine wpR_val (v := (Value.string x12)) (w' := w1) rfl rfl rfl (x_load1 rfl rfl SH_9 q12) ?_
    obtain ⟨f13, fi13, ca13, fn13, qv13, qf13, qn13, qb13, h⟩ := h
    refine wpR_enter rfl rfl rfl (x_callv (vs := [(Value.string x12)]) rfl ((show _ = p1 from rfl).trans qv13) (mapl_cons rfl mapl_nil) qf13 qn13 qb13) (Calls.mono h ?_)
    rintro _ w2 ⟨r13, rfl, h⟩
    refine ⟨_, rfl, ?_⟩
    refine wpR_nil ?_
    refine wpC_cond (b := r13) rfl (fun hc14 => ?_) (fun hc14 => ?_)
    · replace h := h.1 hc14
      refine wpC_seq ?_
      refine wpC_cut (fun ρ => ρ 5 = (Value.int .i64 l9) ∧ True) ⟨e5, trivial⟩ ?_
      rintro ρ ⟨e5, -⟩
      refine wpC_region ?_
      refine wpR_val (v := (Value.int .i64 l9)) (w' := w2) rfl rfl rfl (x_move (v := (Value.int .i64 l9)) rfl e5) ?_
      refine wpR_val (v := (Value.int .i64 l9)) (w' := w2) rfl rfl rfl (x_assign (v := (Value.int .i64 l9)) rfl rfl) ?_
      refine wpR_nil ?_
      refine wpC_ret ?_
      exact ⟨.inl rfl, fun a ha => ⟨_, results_rep1 rfl ha rfl, l9, rfl, h⟩⟩
    · replace h := h.2 hc14
      refine wpC_skip ?_
      refine wpC_cut (fun ρ => ρ 0 = (Sl.v p0) ∧ ρ 1 = p1 ∧ ρ 7 = (Value.int .i64 (p0.len : Int)) ∧ ρ 8 = (Value.int .i64 l9) ∧ True) ⟨e0, e1, e7, e8, trivial⟩ ?_
      rintro ρ ⟨e0, e1, e7, e8, -⟩
      refine wpC_region ?_
      refine wpR_val (v := (Value.int .i64 (IntKind.i64.wrap (l9 + 1)))) (w' := w2) rfl rfl rfl (x_add rfl e8 rfl) ?_
      refine wpR_val (v := (Value.int .i64 (IntKind.i64.wrap (l9 + 1)))) (w' := w2) rfl rfl rfl (x_move (v := (Value.int .i64 (IntKind.i64.wrap (l9 + 1)))) rfl rfl) ?_
      refine wpR_nil ?_
      exact ⟨IntKind.i64.wrap (l9 + 1), ⟨rfl, e0, e1, e7, trivial⟩, h⟩
  · replace h := h.2 hc10
    refine wpC_exit ?_
    refine wpC_seq ?_
    refine wpC_cut (fun ρ => True) trivial ?_
    rintro ρ -
    refine wpC_region ?_
    refine wpR_val (v := (Value.int .i64 (-1))) (w' := w1) rfl rfl rfl (x_assign (v := (Value.int .i64 (-1))) rfl rfl) ?_
    refine wpR_nil ?_
    refine wpC_ret ?_
    exact ⟨.inl rfl, fun a ha => ⟨_, results_rep1 rfl ha rfl, (-1), rfl, h⟩⟩

/-- slices.IndexFunc[[]api.Way,api.Way] -/
def F57 (p0 : Sl) (p1 : Value) (w0 : World) (K : Int → World → Prop) : Prop :=
  lp (fun (next9 : Int → World → Prop) l9 w1 =>
    cnd (decide (l9 < (p0.len : Int)))
      (
      ix p0 l9 2 fun p11 =>
      ld (Value.int .i64) (p11.add 0) w1 fun x12 =>
      ld (Value.int .i64) (p11.add 1) w1 fun x13 =>
      cv Try.prog p1 [(Value.agg #[(Value.int .i64 x12), (Value.int .i64 x13)])] (fun (r : Bool) => (Value.bool r)) w1 fun r14 w2 =>
      cnd (r14)
        (
        K l9 w2
        )
        (
        next9 (IntKind.i64.wrap (l9 + 1)) w2
        )
      )
      (
      K (-1) w1
      )
  ) 0 w0
set_option maxRecDepth 100000 in
theorem D57 (p0 : Sl) (p1 : Value) (w0 : World) (K : Int → World → Prop) (h : F57 p0 p1 w0 K) : callC Try.prog 57 #[(Sl.v p0), p1] (fun (r : Int) => (Value.int .i64 r)) w0 K := by
  unfold F57 at h
  refine calls_of_wpC Try.func57 rfl 19 rfl (by simp) ?_
  intro ρ hρ
  have e0 : ρ 0 = (Sl.v p0) := hρ 0
  have e1 : ρ 1 = p1 := hρ 1
  clear hρ
  refine wpC_seq ?_
  refine wpC_region ?_
  refine wpR_val (v := (Value.int .i64 0)) (w' := w0) rfl rfl rfl (x_assign (v := (Value.int .i64 0)) rfl rfl) ?_
  refine wpR_nil ?_
  refine wpC_seq ?_
  refine wpC_seq ?_
  refine wpC_cut (fun ρ => ρ 0 = (Sl.v p0) ∧ ρ 1 = p1 ∧ True) ⟨e0, e1, trivial⟩ ?_
  rintro ρ ⟨e0, e1, -⟩
  refine wpC_region ?_
  refine wpR_val (v := (Sl.v p0)) (w' := w0) rfl rfl rfl (x_move (v := (Sl.v p0)) rfl e0) ?_
  refine wpR_val (v := (Value.int .i64 (p0.len : Int))) (w' := w0) rfl rfl rfl (x_lenS (s := p0) rfl rfl isSliceT_25) ?_
  refine wpR_val (v := (Value.int .i64 0)) (w' := w0) rfl rfl rfl (x_move (v := (Value.int .i64 0)) rfl rfl) ?_
  refine wpR_nil ?_
  refine wpC_block ?_
  obtain ⟨I9, μ9, hI9, hr9⟩ := h
  refine wpC_loop (fun (x : Int) ρ => ρ 8 = (Value.int .i64 x) ∧ ρ 0 = (Sl.v p0) ∧ ρ 1 = p1 ∧ ρ 7 = (Value.int .i64 (p0.len : Int)) ∧ True) I9 μ9 0 ⟨rfl, e0, e1, rfl, trivial⟩ hI9 ?_
  rintro l9 ρ w1 ⟨e8, e0, e1, e7, -⟩ h
  replace h := hr9 l9 w1 h
  clear hr9 hI9
  refine wpC_seq ?_
  refine wpC_region ?_
  refine wpR_val (v := (Value.bool (decide (l9 < (p0.len : Int))))) (w' := w1) rfl rfl rfl (x_lss rfl e8 e7) ?_
  refine wpR_nil ?_
  refine wpC_seq ?_
  refine wpC_cond (b := decide (l9 < (p0.len : Int))) rfl (fun hc10 => ?_) (fun hc10 => ?_)
  · replace h := h.1 hc10
    refine wpC_skip ?_
    refine wpC_seq ?_
    refine wpC_block ?_
    refine wpC_seq ?_
    refine wpC_cut (fun ρ => ρ 0 = (Sl.v p0) ∧ ρ 1 = p1 ∧ ρ 7 = (Value.int .i64 (p0.len : Int)) ∧ ρ 8 = (Value.int .i64 l9) ∧ True) ⟨e0, e1, e7, e8, trivial⟩ ?_
    rintro ρ ⟨e0, e1, e7, e8, -⟩
    refine wpC_region ?_
    refine wpR_val (v := (Value.int .i64 l9)) (w' := w1) rfl rfl rfl (x_move (v := (Value.int .i64 l9)) rfl e8) ?_
    refine wpR_val (v := (Value.int .i64 l9)) (w' := w1) rfl rfl rfl (x_assign (v := (Value.int .i64 l9)) rfl rfl) ?_
    refine wpR_nil ?_
    refine wpC_seq ?_
    refine wpC_cut (fun ρ => ρ 0 = (Sl.v p0) ∧ ρ 1 = p1 ∧ ρ 5 = (Value.int .i64 l9) ∧ ρ 7 = (Value.int .i64 (p0.len : Int)) ∧ ρ 8 = (Value.int .i64 l9) ∧ True) ⟨e0, e1, rfl, e7, e8, trivial⟩ ?_
    rintro ρ ⟨e0, e1, e5, e7, e8, -⟩
    refine wpC_region ?_
    refine wpR_val (v := p1) (w' := w1) rfl rfl rfl (x_move (v := p1) rfl e1) ?_
    refine wpR_val (v := (Sl.v p0)) (w' := w1) rfl rfl rfl (x_move (v := (Sl.v p0)) rfl e0) ?_
    refine wpR_val (v := (Value.int .i64 l9)) (w' := w1) rfl rfl rfl (x_move (v := (Value.int .i64 l9)) rfl e5) ?_
    obtain ⟨q11, z11, r11, h⟩ := h
    generalize hp11 : z11.add ((l9 : Int).toNat * 2) = p11 at h
    refine wpR_val (v := (Value.pointer (some p11))) (w' := w1) rfl rfl rfl ((x_indexAddr (s := p0) rfl rfl rfl ES_25 q11 r11).trans (by rw [hp11])) ?_
    obtain ⟨x12, q12, x13, q13, h⟩ := h
    refine wpR_val (v := (Value.agg #[(Value.int .i64 x12), (Value.int .i64 x13)])) (w' := w1) rfl rfl rfl (x_loadN [(Value.int .i64 x12), (Value.int .i64 x13)] rfl rfl SH_46 (CellsAt.out (CellsAt.cons q12 (CellsAt.cons q13 CellsAt.nil)))) ?_
    obtain ⟨f14, fi14, ca14, fn14, qv14, qf14, qn14, qb14, h⟩ := h
    refine wpR_enter rfl rfl rfl (x_callv (vs := [(Value.agg #[(Value.int .i64 x12), (Value.int .i64 x13)])]) rfl ((show _ = p1 from rfl).trans qv14) (mapl_cons rfl mapl_nil) qf14 qn14 qb14) (Calls.mono h ?_)
    rintro _ w2 ⟨r14, rfl, h⟩
    refine ⟨_, rfl, ?_⟩
    refine wpR_nil ?_
    refine wpC_cond (b := r14) rfl (fun hc15 => ?_) (fun hc15 => ?_)
    · replace h := h.1 hc15
      refine wpC_seq ?_
      refine wpC_cut (fun ρ => ρ 5 = (Value.int .i64 l9) ∧ True) ⟨e5, trivial⟩ ?_
      rintro ρ ⟨e5, -⟩
      refine wpC_region ?_
      refine wpR_val (v := (Value.int .i64 l9)) (w' := w2) rfl rfl rfl (x_move (v := (Value.int .i64 l9)) rfl e5) ?_
      refine wpR_val (v := (Value.int .i64 l9)) (w' := w2) rfl rfl rfl (x_assign (v := (Value.int .i64 l9)) rfl rfl) ?_
      refine wpR_nil ?_
      refine wpC_ret ?_
      exact ⟨.inl rfl, fun a ha => ⟨_, results_rep1 rfl ha rfl, l9, rfl, h⟩⟩
    · replace h := h.2 hc15
      refine wpC_skip ?_
      refine wpC_cut (fun ρ => ρ 0 = (Sl.v p0) ∧ ρ 1 = p1 ∧ ρ 7 = (Value.int .i64 (p0.len : Int)) ∧ ρ 8 = (Value.int .i64 l9) ∧ True) ⟨e0, e1, e7, e8, trivial⟩ ?_
      rintro ρ ⟨e0, e1, e7, e8, -⟩
      refine wpC_region ?_
      refine wpR_val (v := (Value.int .i64 (IntKind.i64.wrap (l9 + 1)))) (w' := w2) rfl rfl rfl (x_add rfl e8 rfl) ?_
      refine wpR_val (v := (Value.int .i64 (IntKind.i64.wrap (l9 + 1)))) (w' := w2) rfl rfl rfl (x_move (v := (Value.int .i64 (IntKind.i64.wrap (l9 + 1)))) rfl rfl) ?_
      refine wpR_nil ?_
      exact ⟨IntKind.i64.wrap (l9 + 1), ⟨rfl, e0, e1, e7, trivial⟩, h⟩
  · replace h := h.2 hc10
    refine wpC_exit ?_
    refine wpC_seq ?_
    refine wpC_cut (fun ρ => True) trivial ?_
    rintro ρ -
    refine wpC_region ?_
    refine wpR_val (v := (Value.int .i64 (-1))) (w' := w1) rfl rfl rfl (x_assign (v := (Value.int .i64 (-1))) rfl rfl) ?_
    refine wpR_nil ?_
    refine wpC_ret ?_
    exact ⟨.inl rfl, fun a ha => ⟨_, results_rep1 rfl ha rfl, (-1), rfl, h⟩⟩

/-- lex.letter -/
def F60 (p0 : Int) (w0 : World) (K : Bool → World → Prop) : Prop :=
  K ((decide (97 ≤ p0)) && (decide (p0 ≤ 122))) w0
set_option maxRecDepth 100000 in
theorem D60 (p0 : Int) (w0 : World) (K : Bool → World → Prop) (h : F60 p0 w0 K) : callC Try.prog 60 #[(Value.int .u8 p0)] (fun (r : Bool) => (Value.bool r)) w0 K := by
  unfold F60 at h
  refine calls_of_wpC Try.func60 rfl 9 rfl (by simp) ?_
  intro ρ hρ
  have e0 : ρ 0 = (Value.int .u8 p0) := hρ 0
  clear hρ
  refine wpC_seq ?_
  refine wpC_region ?_
  refine wpR_val (v := (Value.bool false)) (w' := w0) rfl rfl rfl (x_assign (v := (Value.bool false)) rfl rfl) ?_
  refine wpR_nil ?_
  refine wpC_seq ?_
  refine wpC_cut (fun ρ => ρ 0 = (Value.int .u8 p0) ∧ True) ⟨e0, trivial⟩ ?_
  rintro ρ ⟨e0, -⟩
  refine wpC_region ?_
  refine wpR_val (v := (Value.int .u8 p0)) (w' := w0) rfl rfl rfl (x_move (v := (Value.int .u8 p0)) rfl e0) ?_
  refine wpR_val (v := (Value.bool (decide (97 ≤ p0)))) (w' := w0) rfl rfl rfl (x_geq rfl rfl rfl) ?_
  refine wpR_val (v := (Value.bool (decide (97 ≤ p0)))) (w' := w0) rfl rfl rfl (x_move (v := (Value.bool (decide (97 ≤ p0)))) rfl rfl) ?_
  refine wpR_joinJ 3 (fun (_ : Unit) ρ => ρ 8 = Value.bool ((decide (97 ≤ p0)) && (decide (p0 ≤ 122))) ∧ True) (fun _ w => w0 = w) ?_ ?_
  · clear h
    rcases Bool.eq_false_or_eq_true (decide (97 ≤ p0)) with hc10 | hc10
    · skip
      refine wpR_val (v := (Value.int .u8 p0)) (w' := w0) (wantG rfl rfl rfl hc10) rfl rfl (x_move (v := (Value.int .u8 p0)) rfl e0) ?_
      refine wpR_val (v := (Value.bool (decide (p0 ≤ 122)))) (w' := w0) (wantG rfl rfl rfl hc10) rfl rfl (x_leq rfl rfl rfl) ?_
      refine wpR_val (v := (Value.bool (decide (p0 ≤ 122)))) (w' := w0) rfl rfl rfl (x_pickT (v := (Value.bool (decide (p0 ≤ 122)))) rfl rfl hc10 rfl) ?_
      refine wpR_nil ?_
      exact ⟨(), ⟨(by rw [hc10]; rfl), trivial⟩, rfl⟩
    · skip
      refine wpR_pass (wantN rfl rfl rfl hc10) rfl rfl ?_
      refine wpR_pass (wantN rfl rfl rfl hc10) rfl rfl ?_
      refine wpR_val (v := (Value.bool false)) (w' := w0) rfl rfl rfl (x_pickF (v := (Value.bool false)) rfl rfl hc10 rfl) ?_
      refine wpR_nil ?_
      exact ⟨(), ⟨(by rw [hc10]; rfl), trivial⟩, rfl⟩
  rintro _ ρ wj ⟨e8, -⟩ rfl
  refine wpR_val (v := (Value.bool ((decide (97 ≤ p0)) && (decide (p0 ≤ 122))))) (w' := w0) rfl rfl rfl (x_assign (v := (Value.bool ((decide (97 ≤ p0)) && (decide (p0 ≤ 122))))) rfl e8) ?_
  refine wpR_nil ?_
  refine wpC_ret ?_
  exact ⟨.inl rfl, fun a ha => ⟨_, results_rep1 rfl ha rfl, (decide (97 ≤ p0)) && (decide (p0 ≤ 122)), rfl, h⟩⟩

/-- lex.span -/
def F61 (p0 : ByteArray) (p1 : Value) (w0 : World) (K : Int → World → Prop) : Prop :=
  lp (fun (next9 : Int → World → Prop) l9 w1 =>
    jn (fun J10 => cnd (decide (l9 < (p0.size : Int)))
      (
      rn Try.prog (Instr.index 9 (Value.string p0) (Value.int .i64 l9)) (fun (r : Int) => (Value.int .u8 r)) w1 fun r12 w2 =>
      cv Try.prog p1 [(Value.int .u8 r12)] (fun (r : Bool) => (Value.bool r)) w2 fun r13 w3 =>
      J10 r13 w3
      )
      (
      J10 false w1
      ))
    fun c14 w4 =>
    cnd (c14)
      (
      next9 (IntKind.i64.wrap (l9 + 1)) w4
      )
      (
      K l9 w4
      )
  ) 0 w0
set_option maxRecDepth 100000 in
theorem D61 (p0 : ByteArray) (p1 : Value) (w0 : World) (K : Int → World → Prop) (h : F61 p0 p1 w0 K) : callC Try.prog 61 #[(Value.string p0), p1] (fun (r : Int) => (Value.int .i64 r)) w0 K := by
  unfold F61 at h
  refine calls_of_wpC Try.func61 rfl 20 rfl (by simp) ?_
  intro ρ hρ
  have e0 : ρ 0 = (Value.string p0) := hρ 0
  have e1 : ρ 1 = p1 := hρ 1
  clear hρ
  refine wpC_seq ?_
  refine wpC_region ?_
  refine wpR_val (v := (Value.int .i64 0)) (w' := w0) rfl rfl rfl (x_assign (v := (Value.int .i64 0)) rfl rfl) ?_
  refine wpR_nil ?_
  refine wpC_seq ?_
  refine wpC_cut (fun ρ => ρ 0 = (Value.string p0) ∧ ρ 1 = p1 ∧ True) ⟨e0, e1, trivial⟩ ?_
  rintro ρ ⟨e0, e1, -⟩
  refine wpC_region ?_
  refine wpR_val (v := (Value.int .i64 0)) (w' := w0) rfl rfl rfl (x_assign (v := (Value.int .i64 0)) rfl rfl) ?_
  refine wpR_nil ?_
  refine wpC_seq ?_
  refine wpC_block ?_
  obtain ⟨I9, μ9, hI9, hr9⟩ := h
  refine wpC_loop (fun (x : Int) ρ => ρ 5 = (Value.int .i64 x) ∧ ρ 0 = (Value.string p0) ∧ ρ 1 = p1 ∧ True) I9 μ9 0 ⟨rfl, e0, e1, trivial⟩ hI9 ?_
  rintro l9 ρ w1 ⟨e5, e0, e1, -⟩ h
  replace h := hr9 l9 w1 h
  clear hr9 hI9
  refine wpC_seq ?_
  refine wpC_seq ?_
  refine wpC_region ?_
  refine wpR_val (v := (Value.int .i64 l9)) (w' := w1) rfl rfl rfl (x_move (v := (Value.int .i64 l9)) rfl e5) ?_
  refine wpR_val (v := (Value.string p0)) (w' := w1) rfl rfl rfl (x_move (v := (Value.string p0)) rfl e0) ?_
  refine wpR_val (v := (Value.int .i64 (p0.size : Int))) (w' := w1) rfl rfl rfl (x_lenStr rfl rfl isStrT_9) ?_
  refine wpR_val (v := (Value.bool (decide (l9 < (p0.size : Int))))) (w' := w1) rfl rfl rfl (x_lss rfl rfl rfl) ?_
  refine wpR_val (v := (Value.bool (decide (l9 < (p0.size : Int))))) (w' := w1) rfl rfl rfl (x_move (v := (Value.bool (decide (l9 < (p0.size : Int))))) rfl rfl) ?_
  obtain ⟨J10, h, hk⟩ := h
  refine wpR_joinJ 6 (fun x ρ => ρ 16 = Value.bool x ∧ ρ 0 = (Value.string p0) ∧ ρ 1 = p1 ∧ ρ 5 = (Value.int .i64 l9) ∧ True) (J10) ?_ ?_
  · clear hk
    rcases Bool.eq_false_or_eq_true (decide (l9 < (p0.size : Int))) with hc11 | hc11
    · replace h := h.1 hc11
      refine wpR_val (v := p1) (w' := w1) (wantG rfl rfl rfl hc11) rfl rfl (x_move (v := p1) rfl e1) ?_
      refine wpR_val (v := (Value.string p0)) (w' := w1) (wantG rfl rfl rfl hc11) rfl rfl (x_move (v := (Value.string p0)) rfl e0) ?_
      refine wpR_val (v := (Value.int .i64 l9)) (w' := w1) (wantG rfl rfl rfl hc11) rfl rfl (x_move (v := (Value.int .i64 l9)) rfl e5) ?_
      obtain ⟨r12, w2, q12, h⟩ := h
      refine wpR_val (v := (Value.int .u8 r12)) (w' := w2) (wantG rfl rfl rfl hc11) rfl rfl (x_index rfl rfl rfl q12) ?_
      obtain ⟨f13, fi13, ca13, fn13, qv13, qf13, qn13, qb13, h⟩ := h
      refine wpR_enter (wantG rfl rfl rfl hc11) rfl rfl (x_callv (vs := [(Value.int .u8 r12)]) rfl ((show _ = p1 from rfl).trans qv13) (mapl_cons rfl mapl_nil) qf13 qn13 qb13) (Calls.mono h ?_)
      rintro _ w3 ⟨r13, rfl, h⟩
      refine ⟨_, rfl, ?_⟩
      refine wpR_val (v := (Value.bool r13)) (w' := w3) rfl rfl rfl (x_pickT (v := (Value.bool r13)) rfl rfl hc11 rfl) ?_
      refine wpR_nil ?_
      exact ⟨r13, ⟨rfl, e0, e1, e5, trivial⟩, h⟩
    · replace h := h.2 hc11
      refine wpR_pass (wantN rfl rfl rfl hc11) rfl rfl ?_
      refine wpR_pass (wantN rfl rfl rfl hc11) rfl rfl ?_
      refine wpR_pass (wantN rfl rfl rfl hc11) rfl rfl ?_
      refine wpR_pass (wantN rfl rfl rfl hc11) rfl rfl ?_
      refine wpR_pass (wantN rfl rfl rfl hc11) rfl rfl ?_
      refine wpR_val (v := (Value.bool false)) (w' := w1) rfl rfl rfl (x_pickF (v := (Value.bool false)) rfl rfl hc11 rfl) ?_
      refine wpR_nil ?_
      exact ⟨false, ⟨rfl, e0, e1, e5, trivial⟩, h⟩
  clear h
  rintro c14 ρ w4 ⟨e16, e0, e1, e5, -⟩ h
  replace h := hk c14 w4 h
  clear hk
  refine wpR_nil ?_
  refine wpC_cond (b := c14) e16 (fun hc15 => ?_) (fun hc15 => ?_)
  · replace h := h.1 hc15
    refine wpC_skip ?_
    refine wpC_block ?_
    refine wpC_region ?_
    refine wpR_val (v := (Value.int .i64 l9)) (w' := w4) rfl rfl rfl (x_move (v := (Value.int .i64 l9)) rfl e5) ?_
    refine wpR_val (v := (Value.int .i64 (IntKind.i64.wrap (l9 + 1)))) (w' := w4) rfl rfl rfl (x_add rfl rfl rfl) ?_
    refine wpR_val (v := (Value.int .i64 (IntKind.i64.wrap (l9 + 1)))) (w' := w4) rfl rfl rfl (x_assign (v := (Value.int .i64 (IntKind.i64.wrap (l9 + 1)))) rfl rfl) ?_
    refine wpR_nil ?_
    exact ⟨IntKind.i64.wrap (l9 + 1), ⟨rfl, e0, e1, trivial⟩, h⟩
  · replace h := h.2 hc15
    refine wpC_exit ?_
    refine wpC_seq ?_
    refine wpC_region ?_
    refine wpR_val (v := (Value.int .i64 l9)) (w' := w4) rfl rfl rfl (x_move (v := (Value.int .i64 l9)) rfl e5) ?_
    refine wpR_val (v := (Value.int .i64 l9)) (w' := w4) rfl rfl rfl (x_assign (v := (Value.int .i64 l9)) rfl rfl) ?_
    refine wpR_nil ?_
    refine wpC_ret ?_
    exact ⟨.inl rfl, fun a ha => ⟨_, results_rep1 rfl ha rfl, l9, rfl, h⟩⟩

/-- lex.Word$1 -/
def F62 (p0 : Int) (w0 : World) (K : Bool → World → Prop) : Prop :=
  callC Try.prog 60 #[(Value.int .u8 p0)] (fun (r : Bool) => (Value.bool r)) w0 fun r9 w1 =>
  jn (fun J10 => cnd (r9)
    (
    J10 true w1
    )
    (
    callC Try.prog 63 #[(Value.int .u8 p0)] (fun (r : Bool) => (Value.bool r)) w1 fun r12 w2 =>
    J10 r12 w2
    ))
  fun c13 w3 =>
  K c13 w3
set_option maxRecDepth 100000 in
theorem D62 (p0 : Int) (w0 : World) (K : Bool → World → Prop) (h : F62 p0 w0 K) : callC Try.prog 62 #[(Value.int .u8 p0)] (fun (r : Bool) => (Value.bool r)) w0 K := by
  unfold F62 at h
  refine calls_of_wpC Try.func62 rfl 9 rfl (by simp) ?_
  intro ρ hρ
  have e0 : ρ 0 = (Value.int .u8 p0) := hρ 0
  clear hρ
  refine wpC_seq ?_
  refine wpC_region ?_
  refine wpR_val (v := (Value.bool false)) (w' := w0) rfl rfl rfl (x_assign (v := (Value.bool false)) rfl rfl) ?_
  refine wpR_nil ?_
  refine wpC_seq ?_
  refine wpC_cut (fun ρ => ρ 0 = (Value.int .u8 p0) ∧ True) ⟨e0, trivial⟩ ?_
  rintro ρ ⟨e0, -⟩
  refine wpC_region ?_
  refine wpR_val (v := (Value.int .u8 p0)) (w' := w0) rfl rfl rfl (x_move (v := (Value.int .u8 p0)) rfl e0) ?_
  refine wpR_enter rfl rfl rfl (x_call (vs := [(Value.int .u8 p0)]) rfl rfl (mapl_cons rfl mapl_nil) Try.func60 NN_60 NB_60) (Calls.mono h ?_)
  rintro _ w1 ⟨r9, rfl, h⟩
  refine ⟨_, rfl, ?_⟩
  refine wpR_val (v := (Value.bool r9)) (w' := w1) rfl rfl rfl (x_move (v := (Value.bool r9)) rfl rfl) ?_
  obtain ⟨J10, h, hk⟩ := h
  refine wpR_joinJ 3 (fun x ρ => ρ 8 = Value.bool x ∧ True) (J10) ?_ ?_
  · clear hk
    rcases Bool.eq_false_or_eq_true (r9) with hc11 | hc11
    · replace h := h.1 hc11
      refine wpR_pass (wantN rfl rfl rfl hc11) rfl rfl ?_
      refine wpR_pass (wantN rfl rfl rfl hc11) rfl rfl ?_
      refine wpR_val (v := (Value.bool true)) (w' := w1) rfl rfl rfl (x_pickT (v := (Value.bool true)) rfl rfl hc11 rfl) ?_
      refine wpR_nil ?_
      exact ⟨true, ⟨rfl, trivial⟩, h⟩
    · replace h := h.2 hc11
      refine wpR_val (v := (Value.int .u8 p0)) (w' := w1) (wantG rfl rfl rfl hc11) rfl rfl (x_move (v := (Value.int .u8 p0)) rfl e0) ?_
      refine wpR_enter (wantG rfl rfl rfl hc11) rfl rfl (x_call (vs := [(Value.int .u8 p0)]) rfl rfl (mapl_cons rfl mapl_nil) Try.func63 NN_63 NB_63) (Calls.mono h ?_)
      rintro _ w2 ⟨r12, rfl, h⟩
      refine ⟨_, rfl, ?_⟩
      refine wpR_val (v := (Value.bool r12)) (w' := w2) rfl rfl rfl (x_pickF (v := (Value.bool r12)) rfl rfl hc11 rfl) ?_
      refine wpR_nil ?_
      exact ⟨r12, ⟨rfl, trivial⟩, h⟩
  clear h
  rintro c13 ρ w3 ⟨e8, -⟩ h
  replace h := hk c13 w3 h
  clear hk
  refine wpR_val (v := (Value.bool c13)) (w' := w3) rfl rfl rfl (x_assign (v := (Value.bool c13)) rfl e8) ?_
  refine wpR_nil ?_
  refine wpC_ret ?_
  exact ⟨.inl rfl, fun a ha => ⟨_, results_rep1 rfl ha rfl, c13, rfl, h⟩⟩

/-- lex.digit -/
def F63 (p0 : Int) (w0 : World) (K : Bool → World → Prop) : Prop :=
  K ((decide (48 ≤ p0)) && (decide (p0 ≤ 57))) w0
set_option maxRecDepth 100000 in
theorem D63 (p0 : Int) (w0 : World) (K : Bool → World → Prop) (h : F63 p0 w0 K) : callC Try.prog 63 #[(Value.int .u8 p0)] (fun (r : Bool) => (Value.bool r)) w0 K := by
  unfold F63 at h
  refine calls_of_wpC Try.func63 rfl 9 rfl (by simp) ?_
  intro ρ hρ
  have e0 : ρ 0 = (Value.int .u8 p0) := hρ 0
  clear hρ
  refine wpC_seq ?_
  refine wpC_region ?_
  refine wpR_val (v := (Value.bool false)) (w' := w0) rfl rfl rfl (x_assign (v := (Value.bool false)) rfl rfl) ?_
  refine wpR_nil ?_
  refine wpC_seq ?_
  refine wpC_cut (fun ρ => ρ 0 = (Value.int .u8 p0) ∧ True) ⟨e0, trivial⟩ ?_
  rintro ρ ⟨e0, -⟩
  refine wpC_region ?_
  refine wpR_val (v := (Value.int .u8 p0)) (w' := w0) rfl rfl rfl (x_move (v := (Value.int .u8 p0)) rfl e0) ?_
  refine wpR_val (v := (Value.bool (decide (48 ≤ p0)))) (w' := w0) rfl rfl rfl (x_geq rfl rfl rfl) ?_
  refine wpR_val (v := (Value.bool (decide (48 ≤ p0)))) (w' := w0) rfl rfl rfl (x_move (v := (Value.bool (decide (48 ≤ p0)))) rfl rfl) ?_
  refine wpR_joinJ 3 (fun (_ : Unit) ρ => ρ 8 = Value.bool ((decide (48 ≤ p0)) && (decide (p0 ≤ 57))) ∧ True) (fun _ w => w0 = w) ?_ ?_
  · clear h
    rcases Bool.eq_false_or_eq_true (decide (48 ≤ p0)) with hc10 | hc10
    · skip
      refine wpR_val (v := (Value.int .u8 p0)) (w' := w0) (wantG rfl rfl rfl hc10) rfl rfl (x_move (v := (Value.int .u8 p0)) rfl e0) ?_
      refine wpR_val (v := (Value.bool (decide (p0 ≤ 57)))) (w' := w0) (wantG rfl rfl rfl hc10) rfl rfl (x_leq rfl rfl rfl) ?_
      refine wpR_val (v := (Value.bool (decide (p0 ≤ 57)))) (w' := w0) rfl rfl rfl (x_pickT (v := (Value.bool (decide (p0 ≤ 57)))) rfl rfl hc10 rfl) ?_
      refine wpR_nil ?_
      exact ⟨(), ⟨(by rw [hc10]; rfl), trivial⟩, rfl⟩
    · skip
      refine wpR_pass (wantN rfl rfl rfl hc10) rfl rfl ?_
      refine wpR_pass (wantN rfl rfl rfl hc10) rfl rfl ?_
      refine wpR_val (v := (Value.bool false)) (w' := w0) rfl rfl rfl (x_pickF (v := (Value.bool false)) rfl rfl hc10 rfl) ?_
      refine wpR_nil ?_
      exact ⟨(), ⟨(by rw [hc10]; rfl), trivial⟩, rfl⟩
  rintro _ ρ wj ⟨e8, -⟩ rfl
  refine wpR_val (v := (Value.bool ((decide (48 ≤ p0)) && (decide (p0 ≤ 57))))) (w' := w0) rfl rfl rfl (x_assign (v := (Value.bool ((decide (48 ≤ p0)) && (decide (p0 ≤ 57))))) rfl e8) ?_
  refine wpR_nil ?_
  refine wpC_ret ?_
  exact ⟨.inl rfl, fun a ha => ⟨_, results_rep1 rfl ha rfl, (decide (48 ≤ p0)) && (decide (p0 ≤ 57)), rfl, h⟩⟩

/-- linguaref20.Ways -/
def F19 (p0 : Sl) (p1 : Sl) (w0 : World) (K : Bool → World → Prop) : Prop :=
  cnd (!decide ((p0.len : Int) = (p1.len : Int)))
    (
    K false w0
    )
    (
    lp (fun (next10 : Int → World → Prop) l10 w1 =>
      cnd (decide (l10 < (p0.len : Int)))
        (
        jn (fun (J13 : Bool → World → Prop) => tk w1 fun w2 =>
          ix p0 l10 2 fun p14 =>
          ld (Value.int .i64) (p14.add 0) w2 fun x15 =>
          ld (Value.int .i64) (p14.add 1) w2 fun x16 =>
          ix p1 l10 2 fun p17 =>
          ld (Value.int .i64) (p17.add 0) w2 fun x18 =>
          ld (Value.int .i64) (p17.add 1) w2 fun x19 =>
          J13 (!(decide (x15 = x18) && (decide (x16 = x19) && true))) w2
        )
        fun l20 w3 =>
        cnd (l20)
          (
          K false w3
          )
          (
          next10 (IntKind.i64.wrap (l10 + 1)) w3
          )
        )
        (
        K true w1
        )
    ) 0 w0
    )
set_option maxRecDepth 100000 in
theorem D19 (p0 : Sl) (p1 : Sl) (w0 : World) (K : Bool → World → Prop) (h : F19 p0 p1 w0 K) : callC Try.prog 19 #[(Sl.v p0), (Sl.v p1)] (fun (r : Bool) => (Value.bool r)) w0 K := by
  unfold F19 at h
  refine calls_of_wpC Try.func19 rfl 26 rfl (by simp) ?_
  intro ρ hρ
  have e0 : ρ 0 = (Sl.v p0) := hρ 0
  have e1 : ρ 1 = (Sl.v p1) := hρ 1
  clear hρ
  refine wpC_seq ?_
  refine wpC_region ?_
  refine wpR_val (v := (Value.bool false)) (w' := w0) rfl rfl rfl (x_assign (v := (Value.bool false)) rfl rfl) ?_
  refine wpR_nil ?_
  refine wpC_seq ?_
  refine wpC_seq ?_
  refine wpC_cut (fun ρ => ρ 0 = (Sl.v p0) ∧ ρ 1 = (Sl.v p1) ∧ True) ⟨e0, e1, trivial⟩ ?_
  rintro ρ ⟨e0, e1, -⟩
  refine wpC_region ?_
  refine wpR_val (v := (Sl.v p0)) (w' := w0) rfl rfl rfl (x_move (v := (Sl.v p0)) rfl e0) ?_
  refine wpR_val (v := (Value.int .i64 (p0.len : Int))) (w' := w0) rfl rfl rfl (x_lenS (s := p0) rfl rfl isSliceT_25) ?_
  refine wpR_val (v := (Sl.v p1)) (w' := w0) rfl rfl rfl (x_move (v := (Sl.v p1)) rfl e1) ?_
  refine wpR_val (v := (Value.int .i64 (p1.len : Int))) (w' := w0) rfl rfl rfl (x_lenS (s := p1) rfl rfl isSliceT_25) ?_
  refine wpR_val (v := (Value.bool (!decide ((p0.len : Int) = (p1.len : Int))))) (w' := w0) rfl rfl rfl (x_neq rfl rfl rfl) ?_
  refine wpR_nil ?_
  refine wpC_cond (b := !decide ((p0.len : Int) = (p1.len : Int))) rfl (fun hc9 => ?_) (fun hc9 => ?_)
  · replace h := h.1 hc9
    refine wpC_seq ?_
    refine wpC_cut (fun ρ => True) trivial ?_
    rintro ρ -
    refine wpC_region ?_
    refine wpR_val (v := (Value.bool false)) (w' := w0) rfl rfl rfl (x_assign (v := (Value.bool false)) rfl rfl) ?_
    refine wpR_nil ?_
    refine wpC_ret ?_
    exact ⟨.inl rfl, fun a ha => ⟨_, results_rep1 rfl ha rfl, false, rfl, h⟩⟩
  · replace h := h.2 hc9
    refine wpC_skip ?_
    refine wpC_seq ?_
    refine wpC_seq ?_
    refine wpC_cut (fun ρ => ρ 0 = (Sl.v p0) ∧ ρ 1 = (Sl.v p1) ∧ True) ⟨e0, e1, trivial⟩ ?_
    rintro ρ ⟨e0, e1, -⟩
    refine wpC_region ?_
    refine wpR_val (v := (Value.int .i64 0)) (w' := w0) rfl rfl rfl (x_assign (v := (Value.int .i64 0)) rfl rfl) ?_
    refine wpR_nil ?_
    refine wpC_block ?_
    obtain ⟨I10, μ10, hI10, hr10⟩ := h
    refine wpC_loop (fun (x : Int) ρ => ρ 5 = (Value.int .i64 x) ∧ ρ 0 = (Sl.v p0) ∧ ρ 1 = (Sl.v p1) ∧ True) I10 μ10 0 ⟨rfl, e0, e1, trivial⟩ hI10 ?_
    rintro l10 ρ w1 ⟨e5, e0, e1, -⟩ h
    replace h := hr10 l10 w1 h
    clear hr10 hI10
    refine wpC_seq ?_
    refine wpC_seq ?_
    refine wpC_region ?_
    refine wpR_val (v := (Value.int .i64 l10)) (w' := w1) rfl rfl rfl (x_move (v := (Value.int .i64 l10)) rfl e5) ?_
    refine wpR_val (v := (Sl.v p0)) (w' := w1) rfl rfl rfl (x_move (v := (Sl.v p0)) rfl e0) ?_
    refine wpR_val (v := (Value.int .i64 (p0.len : Int))) (w' := w1) rfl rfl rfl (x_lenS (s := p0) rfl rfl isSliceT_25) ?_
    refine wpR_val (v := (Value.bool (decide (l10 < (p0.len : Int))))) (w' := w1) rfl rfl rfl (x_lss rfl rfl rfl) ?_
    refine wpR_nil ?_
    refine wpC_cond (b := decide (l10 < (p0.len : Int))) rfl (fun hc11 => ?_) (fun hc11 => ?_)
    · replace h := h.1 hc11
      refine wpC_skip ?_
      refine wpC_seq ?_
      refine wpC_block ?_
      refine wpC_seq ?_
      refine wpC_cut (fun ρ => ρ 0 = (Sl.v p0) ∧ ρ 1 = (Sl.v p1) ∧ ρ 5 = (Value.int .i64 l10) ∧ True) ⟨e0, e1, e5, trivial⟩ ?_
      rintro ρ ⟨e0, e1, e5, -⟩
      obtain ⟨J13, h, hk⟩ := h
      refine wpC_drawJ (by kernel_rfl) (fun (x : Bool) ρ => ρ 25 = (Value.bool x) ∧ ρ 0 = (Sl.v p0) ∧ ρ 1 = (Sl.v p1) ∧ ρ 5 = (Value.int .i64 l10) ∧ True) J13 ?_ ?_
      · clear hk
        unfold tk at h
        generalize w1.drew = w2 at h ⊢
        refine wpD_take (v := (Sl.v p0)) 0 (fun _ => True) rfl (by kernel_rfl) (by kernel_rfl) (by kernel_rfl) rfl rfl rfl trivial (fun w _ => (x_move (v := (Sl.v p0)) rfl e0)) ?_
        refine wpD_take (v := (Value.int .i64 l10)) 1 (fun _ => True) rfl (by kernel_rfl) (by kernel_rfl) (by kernel_rfl) rfl rfl rfl trivial (fun w _ => (x_move (v := (Value.int .i64 l10)) rfl e5)) ?_
        obtain ⟨q14, z14, r14, h⟩ := h
        generalize hp14 : z14.add ((l10 : Int).toNat * 2) = p14 at h
        refine wpD_take (v := (Value.pointer (some p14))) 2 (fun _ => True) rfl (by kernel_rfl) (by kernel_rfl) (by kernel_rfl) rfl rfl rfl trivial (fun w _ => ((x_indexAddr (s := p0) rfl rfl rfl ES_25 q14 r14).trans (by rw [hp14]))) ?_
        obtain ⟨x15, q15, x16, q16, h⟩ := h
        refine wpD_take (v := (Value.agg #[(Value.int .i64 x15), (Value.int .i64 x16)])) 3 (fun w => w.cell? (p14.add 0) = some (Value.int .i64 x15) ∧ w.cell? (p14.add 1) = some (Value.int .i64 x16)) rfl (by kernel_rfl) (by kernel_rfl) (by kernel_rfl) rfl rfl rfl ⟨q15, q16⟩ (fun w ⟨q15, q16⟩ => (x_loadN [(Value.int .i64 x15), (Value.int .i64 x16)] rfl rfl SH_46 (CellsAt.out (CellsAt.cons q15 (CellsAt.cons q16 CellsAt.nil))))) ?_
        refine wpD_take (v := (Sl.v p1)) 4 (fun _ => True) rfl (by kernel_rfl) (by kernel_rfl) (by kernel_rfl) rfl rfl rfl trivial (fun w _ => (x_move (v := (Sl.v p1)) rfl e1)) ?_
        refine wpD_take (v := (Value.int .i64 l10)) 5 (fun _ => True) rfl (by kernel_rfl) (by kernel_rfl) (by kernel_rfl) rfl rfl rfl trivial (fun w _ => (x_move (v := (Value.int .i64 l10)) rfl e5)) ?_
        obtain ⟨q17, z17, r17, h⟩ := h
        generalize hp17 : z17.add ((l10 : Int).toNat * 2) = p17 at h
        refine wpD_take (v := (Value.pointer (some p17))) 6 (fun _ => True) rfl (by kernel_rfl) (by kernel_rfl) (by kernel_rfl) rfl rfl rfl trivial (fun w _ => ((x_indexAddr (s := p1) rfl rfl rfl ES_25 q17 r17).trans (by rw [hp17]))) ?_
        obtain ⟨x18, q18, x19, q19, h⟩ := h
        refine wpD_take (v := (Value.agg #[(Value.int .i64 x18), (Value.int .i64 x19)])) 7 (fun w => w.cell? (p17.add 0) = some (Value.int .i64 x18) ∧ w.cell? (p17.add 1) = some (Value.int .i64 x19)) rfl (by kernel_rfl) (by kernel_rfl) (by kernel_rfl) rfl rfl rfl ⟨q18, q19⟩ (fun w ⟨q18, q19⟩ => (x_loadN [(Value.int .i64 x18), (Value.int .i64 x19)] rfl rfl SH_46 (CellsAt.out (CellsAt.cons q18 (CellsAt.cons q19 CellsAt.nil))))) ?_
        refine wpD_take (v := (Value.bool (!(decide (x15 = x18) && (decide (x16 = x19) && true))))) 8 (fun _ => True) rfl (by kernel_rfl) (by kernel_rfl) (by kernel_rfl) rfl rfl rfl trivial (fun w _ => (x_neqA rfl rfl rfl EQ1_46 EQ2_46 EQ3_46 (EQ_46 x15 x16 x18 x19))) ?_
        exact wpD_done (by kernel_rfl) ⟨!(decide (x15 = x18) && (decide (x16 = x19) && true)), ⟨rfl, e0, e1, e5, trivial⟩, h⟩
      clear h
      rintro l20 ρ w3 ⟨e25, e0, e1, e5, -⟩ h
      replace h := hk l20 w3 h
      clear hk
      refine wpC_cond (b := l20) e25 (fun hc21 => ?_) (fun hc21 => ?_)
      · replace h := h.1 hc21
        refine wpC_seq ?_
        refine wpC_region ?_
        refine wpR_val (v := (Value.bool false)) (w' := w3) rfl rfl rfl (x_assign (v := (Value.bool false)) rfl rfl) ?_
        refine wpR_nil ?_
        refine wpC_ret ?_
        exact ⟨.inl rfl, fun a ha => ⟨_, results_rep1 rfl ha rfl, false, rfl, h⟩⟩
      · replace h := h.2 hc21
        refine wpC_skip ?_
        refine wpC_region ?_
        refine wpR_val (v := (Value.int .i64 l10)) (w' := w3) rfl rfl rfl (x_move (v := (Value.int .i64 l10)) rfl e5) ?_
        refine wpR_val (v := (Value.int .i64 (IntKind.i64.wrap (l10 + 1)))) (w' := w3) rfl rfl rfl (x_add rfl rfl rfl) ?_
        refine wpR_val (v := (Value.int .i64 (IntKind.i64.wrap (l10 + 1)))) (w' := w3) rfl rfl rfl (x_assign (v := (Value.int .i64 (IntKind.i64.wrap (l10 + 1)))) rfl rfl) ?_
        refine wpR_nil ?_
        exact ⟨IntKind.i64.wrap (l10 + 1), ⟨rfl, e0, e1, trivial⟩, h⟩
    · replace h := h.2 hc11
      refine wpC_exit ?_
      refine wpC_seq ?_
      refine wpC_cut (fun ρ => True) trivial ?_
      rintro ρ -
      refine wpC_region ?_
      refine wpR_val (v := (Value.bool true)) (w' := w1) rfl rfl rfl (x_assign (v := (Value.bool true)) rfl rfl) ?_
      refine wpR_nil ?_
      refine wpC_ret ?_
      exact ⟨.inl rfl, fun a ha => ⟨_, results_rep1 rfl ha rfl, true, rfl, h⟩⟩

/-- lingualaw20.certified -/
def F20 (p0_0 : ByteArray) (p0_1 : Int) (p0_2 : Int) (p0_3 : Int) (p0_4 : Bool) (p0_5 : Int) (p0_6 : Bool) (p0_7 : Bool) (p0_8 : Int) (p0_9 : Int) (p0_10 : Int) (p0_11 : Int) (p0_12 : Sl) (p0_13 : Int) (p0_14 : Int) (p0_15 : Int) (p0_16 : Int) (p0_17 : Bool) (p0_18 : Int) (p0_19 : Int) (p0_20 : Int) (p0_21 : Int) (w0 : World) (K : (Sl × Bool) → World → Prop) : Prop :=
  nw 24 (A23 p0_0 p0_1 p0_2 p0_3 p0_4 p0_5 p0_6 p0_7 p0_8 p0_9 p0_10 p0_11 p0_12 p0_13 p0_14 p0_15 p0_16 p0_17 p0_18 p0_19 p0_20 p0_21) w0 fun b9 w1 =>
  L23 (Addr.mk b9 0 none) w1 fun x10 x11 x12 x13 x14 x15 x16 x17 x18 x19 x20 x21 x22 x23 x24 x25 x26 x27 x28 x29 x30 x31 =>
  callC Try.prog 18 #[(V23 x10 x11 x12 x13 x14 x15 x16 x17 x18 x19 x20 x21 x22 x23 x24 x25 x26 x27 x28 x29 x30 x31)] (fun (r : Sl × Int) => (Value.tuple #[(Sl.v r.1), (Value.int .i64 r.2)])) w1 fun r32 w2 =>
  cnd (!decide (r32.2 = 0))
    (
    K (Sl.nil, false) w2
    )
    (
    L23 (Addr.mk b9 0 none) w2 fun x34 x35 x36 x37 x38 x39 x40 x41 x42 x43 x44 x45 x46 x47 x48 x49 x50 x51 x52 x53 x54 x55 =>
    callC Try.prog 10 #[(V23 x34 x35 x36 x37 x38 x39 x40 x41 x42 x43 x44 x45 x46 x47 x48 x49 x50 x51 x52 x53 x54 x55), (Sl.v r32.1)] (fun (r : Sl × Int) => (Value.tuple #[(Sl.v r.1), (Value.int .i64 r.2)])) w2 fun r56 w3 =>
    K (r56.1, decide (r56.2 = 0)) w3
    )
set_option maxRecDepth 100000 in
theorem D20 (p0_0 : ByteArray) (p0_1 : Int) (p0_2 : Int) (p0_3 : Int) (p0_4 : Bool) (p0_5 : Int) (p0_6 : Bool) (p0_7 : Bool) (p0_8 : Int) (p0_9 : Int) (p0_10 : Int) (p0_11 : Int) (p0_12 : Sl) (p0_13 : Int) (p0_14 : Int) (p0_15 : Int) (p0_16 : Int) (p0_17 : Bool) (p0_18 : Int) (p0_19 : Int) (p0_20 : Int) (p0_21 : Int) (w0 : World) (K : (Sl × Bool) → World → Prop) (h : F20 p0_0 p0_1 p0_2 p0_3 p0_4 p0_5 p0_6 p0_7 p0_8 p0_9 p0_10 p0_11 p0_12 p0_13 p0_14 p0_15 p0_16 p0_17 p0_18 p0_19 p0_20 p0_21 w0 K) : callC Try.prog 20 #[(V23 p0_0 p0_1 p0_2 p0_3 p0_4 p0_5 p0_6 p0_7 p0_8 p0_9 p0_10 p0_11 p0_12 p0_13 p0_14 p0_15 p0_16 p0_17 p0_18 p0_19 p0_20 p0_21)] (fun (r : Sl × Bool) => (Value.tuple #[(Sl.v r.1), (Value.bool r.2)])) w0 K := by
  unfold F20 at h
  refine calls_of_wpC Try.func20 rfl 24 rfl (by simp) ?_
  intro ρ hρ
  have e0 : ρ 0 = (V23 p0_0 p0_1 p0_2 p0_3 p0_4 p0_5 p0_6 p0_7 p0_8 p0_9 p0_10 p0_11 p0_12 p0_13 p0_14 p0_15 p0_16 p0_17 p0_18 p0_19 p0_20 p0_21) := hρ 0
  clear hρ
  refine wpC_seq ?_
  refine wpC_region ?_
  obtain ⟨b9, hb9⟩ : ∃ u, u = w0.heap.size := ⟨_, rfl⟩
  obtain ⟨w1, hw9⟩ : ∃ u, u = w0.alloc (.cells (A23 p0_0 p0_1 p0_2 p0_3 p0_4 p0_5 p0_6 p0_7 p0_8 p0_9 p0_10 p0_11 p0_12 p0_13 p0_14 p0_15 p0_16 p0_17 p0_18 p0_19 p0_20 p0_21) 24) := ⟨_, rfl⟩
  replace h := h b9 w1 hb9 hw9
  refine wpR_val (v := (Value.pointer (some (Addr.mk b9 0 none)))) (w' := w1) rfl rfl rfl ((x_box (v := (V23 p0_0 p0_1 p0_2 p0_3 p0_4 p0_5 p0_6 p0_7 p0_8 p0_9 p0_10 p0_11 p0_12 p0_13 p0_14 p0_15 p0_16 p0_17 p0_18 p0_19 p0_20 p0_21)) rfl e0).trans (by rw [hb9, hw9]; rfl)) ?_
  refine wpR_val (v := (Sl.v Sl.nil)) (w' := w1) rfl rfl rfl (x_assign (v := (Sl.v Sl.nil)) rfl rfl) ?_
  refine wpR_val (v := (Value.bool false)) (w' := w1) rfl rfl rfl (x_assign (v := (Value.bool false)) rfl rfl) ?_
  refine wpR_nil ?_
  refine wpC_seq ?_
  refine wpC_cut (fun ρ => ρ 1 = (Value.pointer (some (Addr.mk b9 0 none))) ∧ True) ⟨rfl, trivial⟩ ?_
  rintro ρ ⟨e1, -⟩
  refine wpC_region ?_
  obtain ⟨x10, q10, x11, q11, x12, q12, x13, q13, x14, q14, x15, q15, x16, q16, x17, q17, x18, q18, x19, q19, x20, q20, x21, q21, x22, q22, x23, q23, x24, q24, x25, q25, x26, q26, x27, q27, x28, q28, x29, q29, x30, q30, x31, q31, h⟩ := h
  refine wpR_val (v := (V23 x10 x11 x12 x13 x14 x15 x16 x17 x18 x19 x20 x21 x22 x23 x24 x25 x26 x27 x28 x29 x30 x31)) (w' := w1) rfl rfl rfl (x_loadN (S23 x10 x11 x12 x13 x14 x15 x16 x17 x18 x19 x20 x21 x22 x23 x24 x25 x26 x27 x28 x29 x30 x31) rfl e1 SH_24 (K23 ⟨q10, q11, q12, q13, q14, q15, q16, q17, q18, q19, q20, q21, q22, q23, q24, q25, q26, q27, q28, q29, q30, q31⟩)) ?_
  refine wpR_enter rfl rfl rfl (x_call (vs := [(V23 x10 x11 x12 x13 x14 x15 x16 x17 x18 x19 x20 x21 x22 x23 x24 x25 x26 x27 x28 x29 x30 x31)]) rfl rfl (mapl_cons rfl mapl_nil) Try.func18 NN_18 NB_18) (Calls.mono h ?_)
  rintro _ w2 ⟨r32, rfl, h⟩
  refine ⟨_, rfl, ?_⟩
  refine wpR_val (v := (Value.tuple #[(Sl.v r32.1), (Value.int .i64 r32.2)])) (w' := w2) rfl rfl rfl (x_move (v := (Value.tuple #[(Sl.v r32.1), (Value.int .i64 r32.2)])) rfl rfl) ?_
  refine wpR_val (v := (Sl.v r32.1)) (w' := w2) rfl rfl rfl (x_extract rfl rfl rfl) ?_
  refine wpR_val (v := (Value.int .i64 r32.2)) (w' := w2) rfl rfl rfl (x_extract rfl rfl rfl) ?_
  refine wpR_val (v := (Sl.v r32.1)) (w' := w2) rfl rfl rfl (x_assign (v := (Sl.v r32.1)) rfl rfl) ?_
  refine wpR_val (v := (Value.int .i64 r32.2)) (w' := w2) rfl rfl rfl (x_assign (v := (Value.int .i64 r32.2)) rfl rfl) ?_
  refine wpR_nil ?_
  refine wpC_seq ?_
  refine wpC_seq ?_
  refine wpC_cut (fun ρ => ρ 1 = (Value.pointer (some (Addr.mk b9 0 none))) ∧ ρ 4 = (Sl.v r32.1) ∧ ρ 5 = (Value.int .i64 r32.2) ∧ True) ⟨e1, rfl, rfl, trivial⟩ ?_
  rintro ρ ⟨e1, e4, e5, -⟩
  refine wpC_region ?_
  refine wpR_val (v := (Value.int .i64 r32.2)) (w' := w2) rfl rfl rfl (x_move (v := (Value.int .i64 r32.2)) rfl e5) ?_
  refine wpR_val (v := (Value.bool (!decide (r32.2 = 0)))) (w' := w2) rfl rfl rfl (x_neq rfl rfl rfl) ?_
  refine wpR_nil ?_
  refine wpC_cond (b := !decide (r32.2 = 0)) rfl (fun hc33 => ?_) (fun hc33 => ?_)
  · replace h := h.1 hc33
    refine wpC_seq ?_
    refine wpC_cut (fun ρ => True) trivial ?_
    rintro ρ -
    refine wpC_region ?_
    refine wpR_val (v := (Sl.v Sl.nil)) (w' := w2) rfl rfl rfl (x_assign (v := (Sl.v Sl.nil)) rfl rfl) ?_
    refine wpR_val (v := (Value.bool false)) (w' := w2) rfl rfl rfl (x_assign (v := (Value.bool false)) rfl rfl) ?_
    refine wpR_nil ?_
    refine wpC_ret ?_
    exact ⟨.inl rfl, fun a ha => ⟨_, results_rep2 rfl ha rfl rfl, (Sl.nil, false), rfl, h⟩⟩
  · replace h := h.2 hc33
    refine wpC_skip ?_
    refine wpC_seq ?_
    refine wpC_cut (fun ρ => ρ 1 = (Value.pointer (some (Addr.mk b9 0 none))) ∧ ρ 4 = (Sl.v r32.1) ∧ True) ⟨e1, e4, trivial⟩ ?_
    rintro ρ ⟨e1, e4, -⟩
    refine wpC_region ?_
    obtain ⟨x34, q34, x35, q35, x36, q36, x37, q37, x38, q38, x39, q39, x40, q40, x41, q41, x42, q42, x43, q43, x44, q44, x45, q45, x46, q46, x47, q47, x48, q48, x49, q49, x50, q50, x51, q51, x52, q52, x53, q53, x54, q54, x55, q55, h⟩ := h
    refine wpR_val (v := (V23 x34 x35 x36 x37 x38 x39 x40 x41 x42 x43 x44 x45 x46 x47 x48 x49 x50 x51 x52 x53 x54 x55)) (w' := w2) rfl rfl rfl (x_loadN (S23 x34 x35 x36 x37 x38 x39 x40 x41 x42 x43 x44 x45 x46 x47 x48 x49 x50 x51 x52 x53 x54 x55) rfl e1 SH_24 (K23 ⟨q34, q35, q36, q37, q38, q39, q40, q41, q42, q43, q44, q45, q46, q47, q48, q49, q50, q51, q52, q53, q54, q55⟩)) ?_
    refine wpR_val (v := (Sl.v r32.1)) (w' := w2) rfl rfl rfl (x_move (v := (Sl.v r32.1)) rfl e4) ?_
    refine wpR_enter rfl rfl rfl (x_call (vs := [(V23 x34 x35 x36 x37 x38 x39 x40 x41 x42 x43 x44 x45 x46 x47 x48 x49 x50 x51 x52 x53 x54 x55), (Sl.v r32.1)]) rfl rfl (mapl_cons rfl (mapl_cons rfl mapl_nil)) Try.func10 NN_10 NB_10) (Calls.mono h ?_)
    rintro _ w3 ⟨r56, rfl, h⟩
    refine ⟨_, rfl, ?_⟩
    refine wpR_val (v := (Value.tuple #[(Sl.v r56.1), (Value.int .i64 r56.2)])) (w' := w3) rfl rfl rfl (x_move (v := (Value.tuple #[(Sl.v r56.1), (Value.int .i64 r56.2)])) rfl rfl) ?_
    refine wpR_val (v := (Sl.v r56.1)) (w' := w3) rfl rfl rfl (x_extract rfl rfl rfl) ?_
    refine wpR_val (v := (Value.int .i64 r56.2)) (w' := w3) rfl rfl rfl (x_extract rfl rfl rfl) ?_
    refine wpR_val (v := (Sl.v r56.1)) (w' := w3) rfl rfl rfl (x_assign (v := (Sl.v r56.1)) rfl rfl) ?_
    refine wpR_val (v := (Value.int .i64 r56.2)) (w' := w3) rfl rfl rfl (x_assign (v := (Value.int .i64 r56.2)) rfl rfl) ?_
    refine wpR_nil ?_
    refine wpC_seq ?_
    refine wpC_cut (fun ρ => ρ 6 = (Sl.v r56.1) ∧ ρ 7 = (Value.int .i64 r56.2) ∧ True) ⟨rfl, rfl, trivial⟩ ?_
    rintro ρ ⟨e6, e7, -⟩
    refine wpC_region ?_
    refine wpR_val (v := (Sl.v r56.1)) (w' := w3) rfl rfl rfl (x_move (v := (Sl.v r56.1)) rfl e6) ?_
    refine wpR_val (v := (Value.int .i64 r56.2)) (w' := w3) rfl rfl rfl (x_move (v := (Value.int .i64 r56.2)) rfl e7) ?_
    refine wpR_val (v := (Value.bool (decide (r56.2 = 0)))) (w' := w3) rfl rfl rfl (x_eql rfl rfl rfl) ?_
    refine wpR_val (v := (Sl.v r56.1)) (w' := w3) rfl rfl rfl (x_assign (v := (Sl.v r56.1)) rfl rfl) ?_
    refine wpR_val (v := (Value.bool (decide (r56.2 = 0)))) (w' := w3) rfl rfl rfl (x_assign (v := (Value.bool (decide (r56.2 = 0)))) rfl rfl) ?_
    refine wpR_nil ?_
    refine wpC_ret ?_
    exact ⟨.inl rfl, fun a ha => ⟨_, results_rep2 rfl ha rfl rfl, (r56.1, decide (r56.2 = 0)), rfl, h⟩⟩

/-- lingualaw20.atLeast -/
def F24 (p0 : Sl) (p1 : Sl) (w0 : World) (K : Bool → World → Prop) : Prop :=
  callC Try.prog 12 #[(Sl.v p0), (Sl.v p1)] (fun (r : Bool) => (Value.bool r)) w0 fun r9 w1 =>
  jn (fun J10 => cnd (r9)
    (
    J10 true w1
    )
    (
    callC Try.prog 15 #[(Sl.v p0), (Sl.v p1)] (fun (r : Bool) => (Value.bool r)) w1 fun r12 w2 =>
    J10 r12 w2
    ))
  fun c13 w3 =>
  K c13 w3
set_option maxRecDepth 100000 in
theorem D24 (p0 : Sl) (p1 : Sl) (w0 : World) (K : Bool → World → Prop) (h : F24 p0 p1 w0 K) : callC Try.prog 24 #[(Sl.v p0), (Sl.v p1)] (fun (r : Bool) => (Value.bool r)) w0 K := by
  unfold F24 at h
  refine calls_of_wpC Try.func24 rfl 13 rfl (by simp) ?_
  intro ρ hρ
  have e0 : ρ 0 = (Sl.v p0) := hρ 0
  have e1 : ρ 1 = (Sl.v p1) := hρ 1
  clear hρ
  refine wpC_seq ?_
  refine wpC_region ?_
  refine wpR_val (v := (Value.bool false)) (w' := w0) rfl rfl rfl (x_assign (v := (Value.bool false)) rfl rfl) ?_
  refine wpR_nil ?_
  refine wpC_seq ?_
  refine wpC_cut (fun ρ => ρ 0 = (Sl.v p0) ∧ ρ 1 = (Sl.v p1) ∧ True) ⟨e0, e1, trivial⟩ ?_
  rintro ρ ⟨e0, e1, -⟩
  refine wpC_region ?_
  refine wpR_val (v := (Sl.v p0)) (w' := w0) rfl rfl rfl (x_move (v := (Sl.v p0)) rfl e0) ?_
  refine wpR_val (v := (Sl.v p1)) (w' := w0) rfl rfl rfl (x_move (v := (Sl.v p1)) rfl e1) ?_
  refine wpR_enter rfl rfl rfl (x_call (vs := [(Sl.v p0), (Sl.v p1)]) rfl rfl (mapl_cons rfl (mapl_cons rfl mapl_nil)) Try.func12 NN_12 NB_12) (Calls.mono h ?_)
  rintro _ w1 ⟨r9, rfl, h⟩
  refine ⟨_, rfl, ?_⟩
  refine wpR_val (v := (Value.bool r9)) (w' := w1) rfl rfl rfl (x_move (v := (Value.bool r9)) rfl rfl) ?_
  obtain ⟨J10, h, hk⟩ := h
  refine wpR_joinJ 4 (fun x ρ => ρ 12 = Value.bool x ∧ True) (J10) ?_ ?_
  · clear hk
    rcases Bool.eq_false_or_eq_true (r9) with hc11 | hc11
    · replace h := h.1 hc11
      refine wpR_pass (wantN rfl rfl rfl hc11) rfl rfl ?_
      refine wpR_pass (wantN rfl rfl rfl hc11) rfl rfl ?_
      refine wpR_pass (wantN rfl rfl rfl hc11) rfl rfl ?_
      refine wpR_val (v := (Value.bool true)) (w' := w1) rfl rfl rfl (x_pickT (v := (Value.bool true)) rfl rfl hc11 rfl) ?_
      refine wpR_nil ?_
      exact ⟨true, ⟨rfl, trivial⟩, h⟩
    · replace h := h.2 hc11
      refine wpR_val (v := (Sl.v p0)) (w' := w1) (wantG rfl rfl rfl hc11) rfl rfl (x_move (v := (Sl.v p0)) rfl e0) ?_
      refine wpR_val (v := (Sl.v p1)) (w' := w1) (wantG rfl rfl rfl hc11) rfl rfl (x_move (v := (Sl.v p1)) rfl e1) ?_
      refine wpR_enter (wantG rfl rfl rfl hc11) rfl rfl (x_call (vs := [(Sl.v p0), (Sl.v p1)]) rfl rfl (mapl_cons rfl (mapl_cons rfl mapl_nil)) Try.func15 NN_15 NB_15) (Calls.mono h ?_)
      rintro _ w2 ⟨r12, rfl, h⟩
      refine ⟨_, rfl, ?_⟩
      refine wpR_val (v := (Value.bool r12)) (w' := w2) rfl rfl rfl (x_pickF (v := (Value.bool r12)) rfl rfl hc11 rfl) ?_
      refine wpR_nil ?_
      exact ⟨r12, ⟨rfl, trivial⟩, h⟩
  clear h
  rintro c13 ρ w3 ⟨e12, -⟩ h
  replace h := hk c13 w3 h
  clear hk
  refine wpR_val (v := (Value.bool c13)) (w' := w3) rfl rfl rfl (x_assign (v := (Value.bool c13)) rfl e12) ?_
  refine wpR_nil ?_
  refine wpC_ret ?_
  exact ⟨.inl rfl, fun a ha => ⟨_, results_rep1 rfl ha rfl, c13, rfl, h⟩⟩


end Go.Proofs.Ytnoahloppffndaa
