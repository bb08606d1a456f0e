import Derived.Test.YtaogjbmgobfdoaaRows
import Derived.Test.YtaogjbmgobfdoaaFs1
import Derived.Test.YtaogjbmgobfdoaaDecRaw
namespace Go.Proofs.Ytaogjbmgobfdoaa
open Go.Dec
set_option maxHeartbeats 400000

/-- (*linguaref31.Receiver).Take -/
def F21 (p0 : Option Addr) (p1 : Int) (w0 : World) (K : (Sl × Int) → World → Prop) : Prop :=
  jn (fun (J2 : Bool → World → Prop) => tk w0 fun w1 =>
    nn p0 fun a3 =>
    ld (Value.int .i64) (a3.add 1) w1 fun x4 =>
    cnd (decide (p1 < x4))
      (
      J2 true w1
      )
      (
      nn p0 fun a6 =>
      ld (Value.int .i64) (a6.add 1) w1 fun x7 =>
      nn p0 fun a8 =>
      ld (Value.int .i64) (a8.add 0) w1 fun x9 =>
      J2 (decide (x9 ≤ (IntKind.i64.wrap (p1 - x7)))) w1
      )
  )
  fun l10 w2 =>
  cnd (l10)
    (
    jn (fun (J13 : (Sl × Int) → World → Prop) => tk w2 fun w3 =>
      nn p0 fun a14 =>
      ld (Value.int .i64) (a14.add 1) w3 fun x15 =>
      J13 (Sl.nil, x15) w3
    )
    fun l16 w4 =>
    K (l16.1, l16.2) w4
    )
    (
    jn (fun (J18 : Unit → World → Prop) => tk w2 fun w5 =>
      nn p0 fun a19 =>
      ld Sl.v (a19.add 2) w5 fun x20 =>
      nn p0 fun a21 =>
      ld (Value.int .i64) (a21.add 1) w5 fun x22 =>
      ix x20 (IntKind.i64.wrap (p1 - x22)) 1 fun p23 =>
      st p23 [(Value.bool true)] w5 fun w6 =>
      J18 () w6
    )
    fun _l25 w7 =>
    lp (fun (next26 : Sl → World → Prop) l26 w8 =>
      nn p0 fun a27 =>
      ld Sl.v (a27.add 2) w8 fun x28 =>
      ix x28 0 1 fun p29 =>
      ld Value.bool p29 w8 fun x30 =>
      cnd (x30)
        (
        nn p0 fun a32 =>
        ld (Value.int .i64) (a32.add 1) w8 fun x33 =>
        nw 3 #[(Value.int .i64 x33)] w8 fun b34 w9 =>
        rn Try.prog (Builtin.append_ #[22, 22] 22 #[Sl.v l26, Sl.v (⟨some ⟨b34, 0, none⟩, 1, 1⟩ : Sl)]) Sl.v w9 fun r35 w10 =>
        nn p0 fun a36 =>
        ld (Value.int .i64) (a36.add 1) w10 fun x37 =>
        nn p0 fun a38 =>
        st (a38.add 1) [(Value.int .i64 (IntKind.i64.wrap (x37 + 1)))] w10 fun w11 =>
        nw 4 #[] w11 fun b40 w12 =>
        nn p0 fun a41 =>
        ld Sl.v (a41.add 2) w12 fun x42 =>
        rn Try.prog (Instr.sliceAt 47 (Sl.v x42) (some (Value.int .i64 1)) none none) (fun (r : Sl) => (Sl.v r)) w12 fun r43 w13 =>
        rn Try.prog (Builtin.append_ #[47, 47] 47 #[Sl.v (⟨some ⟨b40, 0, none⟩, 0, 0⟩ : Sl), Sl.v r43]) Sl.v w13 fun r44 w14 =>
        nw 4 #[(Value.bool false)] w14 fun b45 w15 =>
        rn Try.prog (Builtin.append_ #[47, 47] 47 #[Sl.v r44, Sl.v (⟨some ⟨b45, 0, none⟩, 1, 1⟩ : Sl)]) Sl.v w15 fun r46 w16 =>
        nn p0 fun a47 =>
        st (a47.add 2) [(Sl.v r46)] w16 fun w17 =>
        next26 r35 w17
        )
        (
        jn (fun (J50 : (Sl × Int) → World → Prop) => tk w8 fun w18 =>
          nn p0 fun a51 =>
          ld (Value.int .i64) (a51.add 1) w18 fun x52 =>
          J50 (l26, x52) w18
        )
        fun l53 w19 =>
        K (l53.1, l53.2) w19
        )
    ) Sl.nil w7
    )
set_option maxRecDepth 100000 in
theorem D21 (p0 : Option Addr) (p1 : Int) (w0 : World) (K : (Sl × Int) → World → Prop) (h : F21 p0 p1 w0 K) : callC Try.prog 21 #[(Value.pointer p0), (Value.int .i64 p1)] (fun (r : Sl × Int) => (Value.tuple #[(Sl.v r.1), (Value.int .i64 r.2)])) w0 K := by
  unfold F21 at h
  refine calls_of_wpC Try.func21 rfl 78 rfl (by simp) ?_
  intro ρ hρ
  have e0 : ρ 0 = (Value.pointer p0) := hρ 0
  have e1 : ρ 1 = (Value.int .i64 p1) := hρ 1
  clear hρ
  refine wpC_seq ?_
  refine wpC_region ?_
  refine wpR_val (v := (Sl.v Sl.nil)) (w' := w0) rfl rfl rfl (x_assign (v := (Sl.v Sl.nil)) rfl rfl) ?_
  refine wpR_val (v := (Value.int .i64 0)) (w' := w0) rfl rfl rfl (x_assign (v := (Value.int .i64 0)) rfl rfl) ?_
  refine wpR_nil ?_
  refine wpC_seq ?_
  refine wpC_seq ?_
  refine wpC_cut (fun ρ => ρ 0 = (Value.pointer p0) ∧ ρ 1 = (Value.int .i64 p1) ∧ True) ⟨e0, e1, trivial⟩ ?_
  rintro ρ ⟨e0, e1, -⟩
  obtain ⟨J2, h, hk⟩ := h
  refine wpC_drawJ (by kernel_rfl) (fun (x : Bool) ρ => ρ 25 = (Value.bool x) ∧ ρ 0 = (Value.pointer p0) ∧ ρ 1 = (Value.int .i64 p1) ∧ True) J2 ?_ ?_
  · clear hk
    unfold tk at h
    generalize w0.drew = w1 at h ⊢
    refine wpD_take (v := (Value.int .i64 p1)) 0 (fun _ => True) rfl (by kernel_rfl) (by kernel_rfl) (by kernel_rfl) rfl rfl rfl trivial (fun w _ => (x_move (v := (Value.int .i64 p1)) rfl e1)) ?_
    refine wpD_take (v := (Value.pointer p0)) 1 (fun _ => True) rfl (by kernel_rfl) (by kernel_rfl) (by kernel_rfl) rfl rfl rfl trivial (fun w _ => (x_move (v := (Value.pointer p0)) rfl e0)) ?_
    obtain ⟨a3, q3, h⟩ := h
    refine wpD_take (v := (Value.pointer (some a3))) 2 (fun _ => True) rfl (by kernel_rfl) (by kernel_rfl) (by kernel_rfl) rfl rfl rfl trivial (fun w _ => (x_nilCheck rfl rfl q3)) ?_
    refine wpD_take (v := (Value.pointer (some (a3.add 1)))) 3 (fun _ => True) rfl (by kernel_rfl) (by kernel_rfl) (by kernel_rfl) rfl rfl rfl trivial (fun w _ => (x_fieldAddr rfl rfl FA_49_1)) ?_
    obtain ⟨x4, q4, h⟩ := h
    refine wpD_take (v := (Value.int .i64 x4)) 4 (fun w => w.cell? (a3.add 1) = some (Value.int .i64 x4)) rfl (by kernel_rfl) (by kernel_rfl) (by kernel_rfl) rfl rfl rfl q4 (fun w q4 => (x_load1 rfl rfl SH_3 q4)) ?_
    refine wpD_take (v := (Value.bool (decide (p1 < x4)))) 5 (fun _ => True) rfl (by kernel_rfl) (by kernel_rfl) (by kernel_rfl) rfl rfl rfl trivial (fun w _ => (x_lss rfl rfl rfl)) ?_
    refine wpD_take (v := (Value.bool (decide (p1 < x4)))) 6 (fun _ => True) rfl (by kernel_rfl) (by kernel_rfl) (by kernel_rfl) rfl rfl rfl trivial (fun w _ => (x_move (v := (Value.bool (decide (p1 < x4)))) rfl rfl)) ?_
    rcases Bool.eq_false_or_eq_true (decide (p1 < x4)) with hc5 | hc5
    · replace h := h.1 hc5
      refine wpD_pass 7 rfl (by kernel_rfl) (by kernel_rfl) (by kernel_rfl) (wantN rfl rfl rfl hc5) rfl rfl ?_
      refine wpD_pass 8 rfl (by kernel_rfl) (by kernel_rfl) (by kernel_rfl) (wantN rfl rfl rfl hc5) rfl rfl ?_
      refine wpD_pass 9 rfl (by kernel_rfl) (by kernel_rfl) (by kernel_rfl) (wantN rfl rfl rfl hc5) rfl rfl ?_
      refine wpD_pass 10 rfl (by kernel_rfl) (by kernel_rfl) (by kernel_rfl) (wantN rfl rfl rfl hc5) rfl rfl ?_
      refine wpD_pass 11 rfl (by kernel_rfl) (by kernel_rfl) (by kernel_rfl) (wantN rfl rfl rfl hc5) rfl rfl ?_
      refine wpD_pass 12 rfl (by kernel_rfl) (by kernel_rfl) (by kernel_rfl) (wantN rfl rfl rfl hc5) rfl rfl ?_
      refine wpD_pass 13 rfl (by kernel_rfl) (by kernel_rfl) (by kernel_rfl) (wantN rfl rfl rfl hc5) rfl rfl ?_
      refine wpD_pass 14 rfl (by kernel_rfl) (by kernel_rfl) (by kernel_rfl) (wantN rfl rfl rfl hc5) rfl rfl ?_
      refine wpD_pass 15 rfl (by kernel_rfl) (by kernel_rfl) (by kernel_rfl) (wantN rfl rfl rfl hc5) rfl rfl ?_
      refine wpD_pass 16 rfl (by kernel_rfl) (by kernel_rfl) (by kernel_rfl) (wantN rfl rfl rfl hc5) rfl rfl ?_
      refine wpD_pass 17 rfl (by kernel_rfl) (by kernel_rfl) (by kernel_rfl) (wantN rfl rfl rfl hc5) rfl rfl ?_
      refine wpD_take (v := (Value.bool true)) 18 (fun _ => True) rfl (by kernel_rfl) (by kernel_rfl) (by kernel_rfl) rfl rfl rfl trivial (fun w _ => (x_pickT (v := (Value.bool true)) rfl rfl hc5 rfl)) ?_
      exact wpD_done (by kernel_rfl) ⟨true, ⟨rfl, e0, e1, trivial⟩, h⟩
    · replace h := h.2 hc5
      refine wpD_take (v := (Value.int .i64 p1)) 7 (fun _ => True) rfl (by kernel_rfl) (by kernel_rfl) (by kernel_rfl) (wantG rfl rfl rfl hc5) rfl rfl trivial (fun w _ => (x_move (v := (Value.int .i64 p1)) rfl e1)) ?_
      refine wpD_take (v := (Value.pointer p0)) 8 (fun _ => True) rfl (by kernel_rfl) (by kernel_rfl) (by kernel_rfl) (wantG rfl rfl rfl hc5) rfl rfl trivial (fun w _ => (x_move (v := (Value.pointer p0)) rfl e0)) ?_
      obtain ⟨a6, q6, h⟩ := h
      refine wpD_take (v := (Value.pointer (some a6))) 9 (fun _ => True) rfl (by kernel_rfl) (by kernel_rfl) (by kernel_rfl) (wantG rfl rfl rfl hc5) rfl rfl trivial (fun w _ => (x_nilCheck rfl rfl q6)) ?_
      refine wpD_take (v := (Value.pointer (some (a6.add 1)))) 10 (fun _ => True) rfl (by kernel_rfl) (by kernel_rfl) (by kernel_rfl) (wantG rfl rfl rfl hc5) rfl rfl trivial (fun w _ => (x_fieldAddr rfl rfl FA_49_1)) ?_
      obtain ⟨x7, q7, h⟩ := h
      refine wpD_take (v := (Value.int .i64 x7)) 11 (fun w => w.cell? (a6.add 1) = some (Value.int .i64 x7)) rfl (by kernel_rfl) (by kernel_rfl) (by kernel_rfl) (wantG rfl rfl rfl hc5) rfl rfl q7 (fun w q7 => (x_load1 rfl rfl SH_3 q7)) ?_
      refine wpD_take (v := (Value.int .i64 (IntKind.i64.wrap (p1 - x7)))) 12 (fun _ => True) rfl (by kernel_rfl) (by kernel_rfl) (by kernel_rfl) (wantG rfl rfl rfl hc5) rfl rfl trivial (fun w _ => (x_sub rfl rfl rfl)) ?_
      refine wpD_take (v := (Value.pointer p0)) 13 (fun _ => True) rfl (by kernel_rfl) (by kernel_rfl) (by kernel_rfl) (wantG rfl rfl rfl hc5) rfl rfl trivial (fun w _ => (x_move (v := (Value.pointer p0)) rfl e0)) ?_
      obtain ⟨a8, q8, h⟩ := h
      refine wpD_take (v := (Value.pointer (some a8))) 14 (fun _ => True) rfl (by kernel_rfl) (by kernel_rfl) (by kernel_rfl) (wantG rfl rfl rfl hc5) rfl rfl trivial (fun w _ => (x_nilCheck rfl rfl q8)) ?_
      refine wpD_take (v := (Value.pointer (some (a8.add 0)))) 15 (fun _ => True) rfl (by kernel_rfl) (by kernel_rfl) (by kernel_rfl) (wantG rfl rfl rfl hc5) rfl rfl trivial (fun w _ => (x_fieldAddr rfl rfl FA_49_0)) ?_
      obtain ⟨x9, q9, h⟩ := h
      refine wpD_take (v := (Value.int .i64 x9)) 16 (fun w => w.cell? (a8.add 0) = some (Value.int .i64 x9)) rfl (by kernel_rfl) (by kernel_rfl) (by kernel_rfl) (wantG rfl rfl rfl hc5) rfl rfl q9 (fun w q9 => (x_load1 rfl rfl SH_3 q9)) ?_
      refine wpD_take (v := (Value.bool (decide (x9 ≤ (IntKind.i64.wrap (p1 - x7)))))) 17 (fun _ => True) rfl (by kernel_rfl) (by kernel_rfl) (by kernel_rfl) (wantG rfl rfl rfl hc5) rfl rfl trivial (fun w _ => (x_geq rfl rfl rfl)) ?_
      refine wpD_take (v := (Value.bool (decide (x9 ≤ (IntKind.i64.wrap (p1 - x7)))))) 18 (fun _ => True) rfl (by kernel_rfl) (by kernel_rfl) (by kernel_rfl) rfl rfl rfl trivial (fun w _ => (x_pickF (v := (Value.bool (decide (x9 ≤ (IntKind.i64.wrap (p1 - x7)))))) rfl rfl hc5 rfl)) ?_
      exact wpD_done (by kernel_rfl) ⟨decide (x9 ≤ (IntKind.i64.wrap (p1 - x7))), ⟨rfl, e0, e1, trivial⟩, h⟩
  clear h
  rintro l10 ρ w2 ⟨e25, e0, e1, -⟩ h
  replace h := hk l10 w2 h
  clear hk
  refine wpC_cond (b := l10) e25 (fun hc11 => ?_) (fun hc11 => ?_)
  · replace h := h.1 hc11
    refine wpC_seq ?_
    obtain ⟨J13, h, hk⟩ := h
    refine wpC_drawJ (by kernel_rfl) (fun (x : Sl × Int) ρ => ρ 4 = (Sl.v x.1) ∧ ρ 5 = (Value.int .i64 x.2) ∧ True) J13 ?_ ?_
    · clear hk
      unfold tk at h
      generalize w2.drew = w3 at h ⊢
      refine wpD_take (v := (Value.pointer p0)) 0 (fun _ => True) rfl (by kernel_rfl) (by kernel_rfl) (by kernel_rfl) rfl rfl rfl trivial (fun w _ => (x_move (v := (Value.pointer p0)) rfl e0)) ?_
      obtain ⟨a14, q14, h⟩ := h
      refine wpD_take (v := (Value.pointer (some a14))) 1 (fun _ => True) rfl (by kernel_rfl) (by kernel_rfl) (by kernel_rfl) rfl rfl rfl trivial (fun w _ => (x_nilCheck rfl rfl q14)) ?_
      refine wpD_take (v := (Value.pointer (some (a14.add 1)))) 2 (fun _ => True) rfl (by kernel_rfl) (by kernel_rfl) (by kernel_rfl) rfl rfl rfl trivial (fun w _ => (x_fieldAddr rfl rfl FA_49_1)) ?_
      obtain ⟨x15, q15, h⟩ := h
      refine wpD_take (v := (Value.int .i64 x15)) 3 (fun w => w.cell? (a14.add 1) = some (Value.int .i64 x15)) rfl (by kernel_rfl) (by kernel_rfl) (by kernel_rfl) rfl rfl rfl q15 (fun w q15 => (x_load1 rfl rfl SH_3 q15)) ?_
      refine wpD_take (v := (Sl.v Sl.nil)) 4 (fun _ => True) rfl (by kernel_rfl) (by kernel_rfl) (by kernel_rfl) rfl rfl rfl trivial (fun w _ => (x_assign (v := (Sl.v Sl.nil)) rfl rfl)) ?_
      refine wpD_take (v := (Value.int .i64 x15)) 5 (fun _ => True) rfl (by kernel_rfl) (by kernel_rfl) (by kernel_rfl) rfl rfl rfl trivial (fun w _ => (x_assign (v := (Value.int .i64 x15)) rfl rfl)) ?_
      exact wpD_done (by kernel_rfl) ⟨(Sl.nil, x15), ⟨rfl, rfl, trivial⟩, h⟩
    clear h
    rintro l16 ρ w4 ⟨e4, e5, -⟩ h
    replace h := hk l16 w4 h
    clear hk
    refine wpC_ret ?_
    exact ⟨.inl rfl, fun a ha => ⟨_, results_rep2 rfl ha e4 e5, (l16.1, l16.2), rfl, h⟩⟩
  · replace h := h.2 hc11
    refine wpC_skip ?_
    refine wpC_seq ?_
    obtain ⟨J18, h, hk⟩ := h
    refine wpC_drawJ (by kernel_rfl) (fun (x : Unit) ρ => ρ 0 = (Value.pointer p0) ∧ True) J18 ?_ ?_
    · clear hk
      unfold tk at h
      generalize w2.drew = w5 at h ⊢
      refine wpD_take (v := (Value.pointer p0)) 0 (fun _ => True) rfl (by kernel_rfl) (by kernel_rfl) (by kernel_rfl) rfl rfl rfl trivial (fun w _ => (x_move (v := (Value.pointer p0)) rfl e0)) ?_
      obtain ⟨a19, q19, h⟩ := h
      refine wpD_take (v := (Value.pointer (some a19))) 1 (fun _ => True) rfl (by kernel_rfl) (by kernel_rfl) (by kernel_rfl) rfl rfl rfl trivial (fun w _ => (x_nilCheck rfl rfl q19)) ?_
      refine wpD_take (v := (Value.pointer (some (a19.add 2)))) 2 (fun _ => True) rfl (by kernel_rfl) (by kernel_rfl) (by kernel_rfl) rfl rfl rfl trivial (fun w _ => (x_fieldAddr rfl rfl FA_49_2)) ?_
      obtain ⟨x20, q20, h⟩ := h
      refine wpD_take (v := (Sl.v x20)) 3 (fun w => w.cell? (a19.add 2) = some (Sl.v x20)) rfl (by kernel_rfl) (by kernel_rfl) (by kernel_rfl) rfl rfl rfl q20 (fun w q20 => (x_load1 rfl rfl SH_47 q20)) ?_
      refine wpD_take (v := (Value.int .i64 p1)) 4 (fun _ => True) rfl (by kernel_rfl) (by kernel_rfl) (by kernel_rfl) rfl rfl rfl trivial (fun w _ => (x_move (v := (Value.int .i64 p1)) rfl e1)) ?_
      refine wpD_take (v := (Value.pointer p0)) 5 (fun _ => True) rfl (by kernel_rfl) (by kernel_rfl) (by kernel_rfl) rfl rfl rfl trivial (fun w _ => (x_move (v := (Value.pointer p0)) rfl e0)) ?_
      obtain ⟨a21, q21, h⟩ := h
      refine wpD_take (v := (Value.pointer (some a21))) 6 (fun _ => True) rfl (by kernel_rfl) (by kernel_rfl) (by kernel_rfl) rfl rfl rfl trivial (fun w _ => (x_nilCheck rfl rfl q21)) ?_
      refine wpD_take (v := (Value.pointer (some (a21.add 1)))) 7 (fun _ => True) rfl (by kernel_rfl) (by kernel_rfl) (by kernel_rfl) rfl rfl rfl trivial (fun w _ => (x_fieldAddr rfl rfl FA_49_1)) ?_
      obtain ⟨x22, q22, h⟩ := h
      refine wpD_take (v := (Value.int .i64 x22)) 8 (fun w => w.cell? (a21.add 1) = some (Value.int .i64 x22)) rfl (by kernel_rfl) (by kernel_rfl) (by kernel_rfl) rfl rfl rfl q22 (fun w q22 => (x_load1 rfl rfl SH_3 q22)) ?_
      refine wpD_take (v := (Value.int .i64 (IntKind.i64.wrap (p1 - x22)))) 9 (fun _ => True) rfl (by kernel_rfl) (by kernel_rfl) (by kernel_rfl) rfl rfl rfl trivial (fun w _ => (x_sub rfl rfl rfl)) ?_
      obtain ⟨q23, z23, r23, h⟩ := h
      generalize hp23 : z23.add ((IntKind.i64.wrap (p1 - x22) : Int).toNat * 1) = p23 at h
      refine wpD_take (v := (Value.pointer (some p23))) 10 (fun _ => True) rfl (by kernel_rfl) (by kernel_rfl) (by kernel_rfl) rfl rfl rfl trivial (fun w _ => ((x_indexAddr (s := x20) rfl rfl rfl ES_47 q23 r23).trans (by rw [hp23]))) ?_
      refine wpD_all (rs := [11]) (by kernel_rfl) (by simp) (allD_cons ?_ allD_nil)
      obtain ⟨q24, h⟩ := h
      obtain ⟨w6, hw24⟩ : ∃ u, u = setAll w5 p23 [(Value.bool true)] 0 := ⟨_, rfl⟩
      replace h := h w6 hw24
      refine stepD_skpL (L' := []) (w' := w6) rfl rfl rfl ((x_store (v := (Value.bool true)) rfl rfl rfl SZ_4 (ones (by rfl)) q24).trans (by rw [hw24]; rfl)) (by kernel_rfl) held_nil ?_
      exact wpD_done (by kernel_rfl) ⟨(), ⟨e0, trivial⟩, h⟩
    clear h
    rintro l25 ρ w7 ⟨e0, -⟩ h
    replace h := hk l25 w7 h
    clear hk
    refine wpC_seq ?_
    refine wpC_region ?_
    refine wpR_val (v := (Sl.v Sl.nil)) (w' := w7) rfl rfl rfl (x_assign (v := (Sl.v Sl.nil)) rfl rfl) ?_
    refine wpR_nil ?_
    refine wpC_seq ?_
    refine wpC_block ?_
    obtain ⟨I26, μ26, hI26, hr26⟩ := h
    refine wpC_loop (fun (x : Sl) ρ => ρ 6 = (Sl.v x) ∧ ρ 0 = (Value.pointer p0) ∧ True) I26 μ26 Sl.nil ⟨rfl, e0, trivial⟩ hI26 ?_
    rintro l26 ρ w8 ⟨e6, e0, -⟩ h
    replace h := hr26 l26 w8 h
    clear hr26 hI26
    refine wpC_seq ?_
    refine wpC_seq ?_
    refine wpC_region ?_
    refine wpR_val (v := (Value.pointer p0)) (w' := w8) rfl rfl rfl (x_move (v := (Value.pointer p0)) rfl e0) ?_
    obtain ⟨a27, q27, h⟩ := h
    refine wpR_val (v := (Value.pointer (some a27))) (w' := w8) rfl rfl rfl (x_nilCheck rfl rfl q27) ?_
    refine wpR_val (v := (Value.pointer (some (a27.add 2)))) (w' := w8) rfl rfl rfl (x_fieldAddr rfl rfl FA_49_2) ?_
    obtain ⟨x28, q28, h⟩ := h
    refine wpR_val (v := (Sl.v x28)) (w' := w8) rfl rfl rfl (x_load1 rfl rfl SH_47 q28) ?_
    obtain ⟨q29, z29, r29, h⟩ := h
    generalize hp29 : z29.add ((0 : Int).toNat * 1) = p29 at h
    refine wpR_val (v := (Value.pointer (some p29))) (w' := w8) rfl rfl rfl ((x_indexAddr (s := x28) rfl rfl rfl ES_47 q29 r29).trans (by rw [hp29])) ?_
    obtain ⟨x30, q30, h⟩ := h
    refine wpR_val (v := (Value.bool x30)) (w' := w8) rfl rfl rfl (x_load1 rfl rfl SH_4 q30) ?_
    refine wpR_nil ?_
    refine wpC_cond (b := x30) rfl (fun hc31 => ?_) (fun hc31 => ?_)
    · replace h := h.1 hc31
      refine wpC_skip ?_
      refine wpC_block ?_
      refine wpC_seq ?_
      refine wpC_cut (fun ρ => ρ 0 = (Value.pointer p0) ∧ ρ 6 = (Sl.v l26) ∧ True) ⟨e0, e6, trivial⟩ ?_
      rintro ρ ⟨e0, e6, -⟩
      refine wpC_region ?_
      refine wpR_val (v := (Sl.v l26)) (w' := w8) rfl rfl rfl (x_move (v := (Sl.v l26)) rfl e6) ?_
      refine wpR_val (v := (Value.pointer p0)) (w' := w8) rfl rfl rfl (x_move (v := (Value.pointer p0)) rfl e0) ?_
      obtain ⟨a32, q32, h⟩ := h
      refine wpR_val (v := (Value.pointer (some a32))) (w' := w8) rfl rfl rfl (x_nilCheck rfl rfl q32) ?_
      refine wpR_val (v := (Value.pointer (some (a32.add 1)))) (w' := w8) rfl rfl rfl (x_fieldAddr rfl rfl FA_49_1) ?_
      obtain ⟨x33, q33, h⟩ := h
      refine wpR_val (v := (Value.int .i64 x33)) (w' := w8) rfl rfl rfl (x_load1 rfl rfl SH_3 q33) ?_
      obtain ⟨b34, hb34⟩ : ∃ u, u = w8.heap.size := ⟨_, rfl⟩
      obtain ⟨w9, hw34⟩ : ∃ u, u = w8.alloc (.cells #[(Value.int .i64 x33)] 3) := ⟨_, rfl⟩
      replace h := h b34 w9 hb34 hw34
      refine wpR_val (v := (Sl.v (⟨some ⟨b34, 0, none⟩, 1, 1⟩ : Sl))) (w' := w9) rfl rfl rfl ((x_buildSlice (qs := [(0, (Value.int .i64 x33))]) rfl (by rfl) (BS_22_1_0 x33)).trans (by rw [← hb34, ← hw34])) ?_
      obtain ⟨r35, w10, q35, h⟩ := h
      refine wpR_val (v := (Sl.v r35)) (w' := w10) rfl rfl rfl (x_append (s := l26) (u := (⟨some ⟨b34, 0, none⟩, 1, 1⟩ : Sl)) rfl rfl rfl rfl q35) ?_
      refine wpR_val (v := (Sl.v r35)) (w' := w10) rfl rfl rfl (x_assign (v := (Sl.v r35)) rfl rfl) ?_
      refine wpR_nil ?_
      refine wpC_seq ?_
      refine wpC_cut (fun ρ => ρ 0 = (Value.pointer p0) ∧ ρ 6 = (Sl.v r35) ∧ True) ⟨e0, rfl, trivial⟩ ?_
      rintro ρ ⟨e0, e6, -⟩
      refine wpC_region ?_
      refine wpR_val (v := (Value.pointer p0)) (w' := w10) rfl rfl rfl (x_move (v := (Value.pointer p0)) rfl e0) ?_
      obtain ⟨a36, q36, h⟩ := h
      refine wpR_val (v := (Value.pointer (some a36))) (w' := w10) rfl rfl rfl (x_nilCheck rfl rfl q36) ?_
      refine wpR_val (v := (Value.pointer (some (a36.add 1)))) (w' := w10) rfl rfl rfl (x_fieldAddr rfl rfl FA_49_1) ?_
      obtain ⟨x37, q37, h⟩ := h
      refine wpR_val (v := (Value.int .i64 x37)) (w' := w10) rfl rfl rfl (x_load1 rfl rfl SH_3 q37) ?_
      refine wpR_val (v := (Value.int .i64 (IntKind.i64.wrap (x37 + 1)))) (w' := w10) rfl rfl rfl (x_add rfl rfl rfl) ?_
      obtain ⟨a38, q38, h⟩ := h
      refine wpR_val (v := (Value.pointer (some a38))) (w' := w10) rfl rfl rfl (x_nilCheck rfl rfl q38) ?_
      refine wpR_val (v := (Value.pointer (some (a38.add 1)))) (w' := w10) rfl rfl rfl (x_fieldAddr rfl rfl FA_49_1) ?_
      obtain ⟨q39, h⟩ := h
      obtain ⟨w11, hw39⟩ : ∃ u, u = setAll w10 (a38.add 1) [(Value.int .i64 (IntKind.i64.wrap (x37 + 1)))] 0 := ⟨_, rfl⟩
      replace h := h w11 hw39
      refine wpR_skp (w' := w11) rfl rfl ((x_store (v := (Value.int .i64 (IntKind.i64.wrap (x37 + 1)))) rfl rfl rfl SZ_3 (ones (by rfl)) q39).trans (by rw [hw39]; rfl)) ?_
      refine wpR_nil ?_
      refine wpC_cut (fun ρ => ρ 0 = (Value.pointer p0) ∧ ρ 6 = (Sl.v r35) ∧ True) ⟨e0, e6, trivial⟩ ?_
      rintro ρ ⟨e0, e6, -⟩
      refine wpC_region ?_
      refine wpR_val (v := (Value.pointer p0)) (w' := w11) rfl rfl rfl (x_move (v := (Value.pointer p0)) rfl e0) ?_
      obtain ⟨b40, hb40⟩ : ∃ u, u = w11.heap.size := ⟨_, rfl⟩
      obtain ⟨w12, hw40⟩ : ∃ u, u = w11.alloc (.cells #[] 4) := ⟨_, rfl⟩
      replace h := h b40 w12 hb40 hw40
      refine wpR_val (v := (Sl.v (⟨some ⟨b40, 0, none⟩, 0, 0⟩ : Sl))) (w' := w12) rfl rfl rfl ((x_buildSlice (qs := []) rfl (by rfl) (BS_47_0_ )).trans (by rw [← hb40, ← hw40])) ?_
      refine wpR_val (v := (Value.pointer p0)) (w' := w12) rfl rfl rfl (x_move (v := (Value.pointer p0)) rfl e0) ?_
      obtain ⟨a41, q41, h⟩ := h
      refine wpR_val (v := (Value.pointer (some a41))) (w' := w12) rfl rfl rfl (x_nilCheck rfl rfl q41) ?_
      refine wpR_val (v := (Value.pointer (some (a41.add 2)))) (w' := w12) rfl rfl rfl (x_fieldAddr rfl rfl FA_49_2) ?_
      obtain ⟨x42, q42, h⟩ := h
      refine wpR_val (v := (Sl.v x42)) (w' := w12) rfl rfl rfl (x_load1 rfl rfl SH_47 q42) ?_
      obtain ⟨r43, w13, q43, h⟩ := h
      refine wpR_val (v := (Sl.v r43)) (w' := w13) rfl rfl rfl (x_sliceAt rfl rfl (congrArg some rfl) rfl rfl q43) ?_
      obtain ⟨r44, w14, q44, h⟩ := h
      refine wpR_val (v := (Sl.v r44)) (w' := w14) rfl rfl rfl (x_append (s := (⟨some ⟨b40, 0, none⟩, 0, 0⟩ : Sl)) (u := r43) rfl rfl rfl rfl q44) ?_
      obtain ⟨b45, hb45⟩ : ∃ u, u = w14.heap.size := ⟨_, rfl⟩
      obtain ⟨w15, hw45⟩ : ∃ u, u = w14.alloc (.cells #[(Value.bool false)] 4) := ⟨_, rfl⟩
      replace h := h b45 w15 hb45 hw45
      refine wpR_val (v := (Sl.v (⟨some ⟨b45, 0, none⟩, 1, 1⟩ : Sl))) (w' := w15) rfl rfl rfl ((x_buildSlice (qs := [(0, (Value.bool false))]) rfl (by rfl) (BS_47_1_0 false)).trans (by rw [← hb45, ← hw45])) ?_
      obtain ⟨r46, w16, q46, h⟩ := h
      refine wpR_val (v := (Sl.v r46)) (w' := w16) rfl rfl rfl (x_append (s := r44) (u := (⟨some ⟨b45, 0, none⟩, 1, 1⟩ : Sl)) rfl rfl rfl rfl q46) ?_
      obtain ⟨a47, q47, h⟩ := h
      refine wpR_val (v := (Value.pointer (some a47))) (w' := w16) rfl rfl rfl (x_nilCheck rfl rfl q47) ?_
      refine wpR_val (v := (Value.pointer (some (a47.add 2)))) (w' := w16) rfl rfl rfl (x_fieldAddr rfl rfl FA_49_2) ?_
      obtain ⟨q48, h⟩ := h
      obtain ⟨w17, hw48⟩ : ∃ u, u = setAll w16 (a47.add 2) [(Sl.v r46)] 0 := ⟨_, rfl⟩
      replace h := h w17 hw48
      refine wpR_skp (w' := w17) rfl rfl ((x_store (v := (Sl.v r46)) rfl rfl rfl SZ_47 (ones (by rfl)) q48).trans (by rw [hw48]; rfl)) ?_
      refine wpR_nil ?_
      exact ⟨r35, ⟨e6, e0, trivial⟩, h⟩
    · replace h := h.2 hc31
      refine wpC_exit ?_
      refine wpC_seq ?_
      refine wpC_cut (fun ρ => ρ 0 = (Value.pointer p0) ∧ ρ 6 = (Sl.v l26) ∧ True) ⟨e0, e6, trivial⟩ ?_
      rintro ρ ⟨e0, e6, -⟩
      obtain ⟨J50, h, hk⟩ := h
      refine wpC_drawJ (by kernel_rfl) (fun (x : Sl × Int) ρ => ρ 4 = (Sl.v x.1) ∧ ρ 5 = (Value.int .i64 x.2) ∧ True) J50 ?_ ?_
      · clear hk
        unfold tk at h
        generalize w8.drew = w18 at h ⊢
        refine wpD_take (v := (Sl.v l26)) 0 (fun _ => True) rfl (by kernel_rfl) (by kernel_rfl) (by kernel_rfl) rfl rfl rfl trivial (fun w _ => (x_move (v := (Sl.v l26)) rfl e6)) ?_
        refine wpD_take (v := (Value.pointer p0)) 1 (fun _ => True) rfl (by kernel_rfl) (by kernel_rfl) (by kernel_rfl) rfl rfl rfl trivial (fun w _ => (x_move (v := (Value.pointer p0)) rfl e0)) ?_
        obtain ⟨a51, q51, h⟩ := h
        refine wpD_take (v := (Value.pointer (some a51))) 2 (fun _ => True) rfl (by kernel_rfl) (by kernel_rfl) (by kernel_rfl) rfl rfl rfl trivial (fun w _ => (x_nilCheck rfl rfl q51)) ?_
        refine wpD_take (v := (Value.pointer (some (a51.add 1)))) 3 (fun _ => True) rfl (by kernel_rfl) (by kernel_rfl) (by kernel_rfl) rfl rfl rfl trivial (fun w _ => (x_fieldAddr rfl rfl FA_49_1)) ?_
        obtain ⟨x52, q52, h⟩ := h
        refine wpD_take (v := (Value.int .i64 x52)) 4 (fun w => w.cell? (a51.add 1) = some (Value.int .i64 x52)) rfl (by kernel_rfl) (by kernel_rfl) (by kernel_rfl) rfl rfl rfl q52 (fun w q52 => (x_load1 rfl rfl SH_3 q52)) ?_
        refine wpD_take (v := (Sl.v l26)) 5 (fun _ => True) rfl (by kernel_rfl) (by kernel_rfl) (by kernel_rfl) rfl rfl rfl trivial (fun w _ => (x_assign (v := (Sl.v l26)) rfl rfl)) ?_
        refine wpD_take (v := (Value.int .i64 x52)) 6 (fun _ => True) rfl (by kernel_rfl) (by kernel_rfl) (by kernel_rfl) rfl rfl rfl trivial (fun w _ => (x_assign (v := (Value.int .i64 x52)) rfl rfl)) ?_
        exact wpD_done (by kernel_rfl) ⟨(l26, x52), ⟨rfl, rfl, trivial⟩, h⟩
      clear h
      rintro l53 ρ w19 ⟨e4, e5, -⟩ h
      replace h := hk l53 w19 h
      clear hk
      refine wpC_ret ?_
      exact ⟨.inl rfl, fun a ha => ⟨_, results_rep2 rfl ha e4 e5, (l53.1, l53.2), rfl, h⟩⟩

/-- (*link.Receiver).Next -/
def F22 (p0 : Option Addr) (w0 : World) (K : Int → World → Prop) : Prop :=
  nn p0 fun a1 =>
  ld (Value.int .i64) (a1.add 1) w0 fun x2 =>
  K x2 w0
set_option maxRecDepth 100000 in
theorem D22 (p0 : Option Addr) (w0 : World) (K : Int → World → Prop) (h : F22 p0 w0 K) : callC Try.prog 22 #[(Value.pointer p0)] (fun (r : Int) => (Value.int .i64 r)) w0 K := by
  unfold F22 at h
  refine calls_of_wpC Try.func22 rfl 7 rfl (by simp) ?_
  intro ρ hρ
  have e0 : ρ 0 = (Value.pointer p0) := hρ 0
  clear hρ
  refine wpC_seq ?_
  refine wpC_region ?_
  refine wpR_val (v := (Value.int .i64 0)) (w' := w0) rfl rfl rfl (x_assign (v := (Value.int .i64 0)) rfl rfl) ?_
  refine wpR_nil ?_
  refine wpC_seq ?_
  refine wpC_cut (fun ρ => ρ 0 = (Value.pointer p0) ∧ True) ⟨e0, trivial⟩ ?_
  rintro ρ ⟨e0, -⟩
  refine wpC_region ?_
  refine wpR_val (v := (Value.pointer p0)) (w' := w0) rfl rfl rfl (x_move (v := (Value.pointer p0)) rfl e0) ?_
  obtain ⟨a1, q1, h⟩ := h
  refine wpR_val (v := (Value.pointer (some a1))) (w' := w0) rfl rfl rfl (x_nilCheck rfl rfl q1) ?_
  refine wpR_val (v := (Value.pointer (some (a1.add 1)))) (w' := w0) rfl rfl rfl (x_fieldAddr rfl rfl FA_64_1) ?_
  obtain ⟨x2, q2, h⟩ := h
  refine wpR_val (v := (Value.int .i64 x2)) (w' := w0) rfl rfl rfl (x_load1 rfl rfl SH_3 q2) ?_
  refine wpR_val (v := (Value.int .i64 x2)) (w' := w0) rfl rfl rfl (x_assign (v := (Value.int .i64 x2)) rfl rfl) ?_
  refine wpR_nil ?_
  refine wpC_ret ?_
  exact ⟨.inl rfl, fun a ha => ⟨_, results_rep1 rfl ha rfl, x2, rfl, h⟩⟩

/-- lingualaw31.pick -/
def F23 (p0 : Sl) (p1 : Int) (w0 : World) (K : Int → World → Prop) : Prop :=
  (p0.len : Int) ≠ 0 ∧
  jn (fun (J2 : Int → World → Prop) =>
    cnd (decide ((p1.tmod (p0.len : Int)) < 0))
      (
      J2 (IntKind.i64.wrap ((p1.tmod (p0.len : Int)) + (p0.len : Int))) w0
      )
      (
      J2 (p1.tmod (p0.len : Int)) w0
      )
  )
  fun l3 w1 =>
  ix p0 l3 1 fun p5 =>
  ld (Value.int .i64) p5 w1 fun x6 =>
  K x6 w1
set_option maxRecDepth 100000 in
theorem D23 (p0 : Sl) (p1 : Int) (w0 : World) (K : Int → World → Prop) (h : F23 p0 p1 w0 K) : callC Try.prog 23 #[(Sl.v p0), (Value.int .i64 p1)] (fun (r : Int) => (Value.int .i64 r)) w0 K := by
  unfold F23 at h
  refine calls_of_wpC Try.func23 rfl 20 rfl (by simp) ?_
  intro ρ hρ
  have e0 : ρ 0 = (Sl.v p0) := hρ 0
  have e1 : ρ 1 = (Value.int .i64 p1) := hρ 1
  clear hρ
  refine wpC_seq ?_
  refine wpC_region ?_
  refine wpR_val (v := (Value.int .i64 0)) (w' := w0) rfl rfl rfl (x_assign (v := (Value.int .i64 0)) rfl rfl) ?_
  refine wpR_nil ?_
  refine wpC_seq ?_
  refine wpC_cut (fun ρ => ρ 0 = (Sl.v p0) ∧ ρ 1 = (Value.int .i64 p1) ∧ True) ⟨e0, e1, trivial⟩ ?_
  rintro ρ ⟨e0, e1, -⟩
  refine wpC_region ?_
  refine wpR_val (v := (Value.int .i64 p1)) (w' := w0) rfl rfl rfl (x_move (v := (Value.int .i64 p1)) rfl e1) ?_
  refine wpR_val (v := (Sl.v p0)) (w' := w0) rfl rfl rfl (x_move (v := (Sl.v p0)) rfl e0) ?_
  refine wpR_val (v := (Value.int .i64 (p0.len : Int))) (w' := w0) rfl rfl rfl (x_lenS (s := p0) rfl rfl isSliceT_22) ?_
  obtain ⟨q1, h⟩ := h
  refine wpR_val (v := (Value.int .i64 (p1.tmod (p0.len : Int)))) (w' := w0) rfl rfl rfl (x_rem rfl rfl rfl q1) ?_
  refine wpR_val (v := (Value.int .i64 (p1.tmod (p0.len : Int)))) (w' := w0) rfl rfl rfl (x_assign (v := (Value.int .i64 (p1.tmod (p0.len : Int)))) rfl rfl) ?_
  refine wpR_nil ?_
  obtain ⟨J2, h, hk⟩ := h
  refine wpC_seqJ (fun (x : Int) ρ => ρ 5 = (Value.int .i64 x) ∧ ρ 0 = (Sl.v p0) ∧ True) J2 ?_ ?_
  · clear hk
    refine wpC_seq ?_
    refine wpC_cut (fun ρ => ρ 0 = (Sl.v p0) ∧ ρ 5 = (Value.int .i64 (p1.tmod (p0.len : Int))) ∧ True) ⟨e0, rfl, trivial⟩ ?_
    rintro ρ ⟨e0, e5, -⟩
    refine wpC_region ?_
    refine wpR_val (v := (Value.int .i64 (p1.tmod (p0.len : Int)))) (w' := w0) rfl rfl rfl (x_move (v := (Value.int .i64 (p1.tmod (p0.len : Int)))) rfl e5) ?_
    refine wpR_val (v := (Value.bool (decide ((p1.tmod (p0.len : Int)) < 0)))) (w' := w0) rfl rfl rfl (x_lss rfl rfl rfl) ?_
    refine wpR_nil ?_
    refine wpC_cond (b := decide ((p1.tmod (p0.len : Int)) < 0)) rfl (fun hc4 => ?_) (fun hc4 => ?_)
    · replace h := h.1 hc4
      refine wpC_cut (fun ρ => ρ 0 = (Sl.v p0) ∧ ρ 5 = (Value.int .i64 (p1.tmod (p0.len : Int))) ∧ True) ⟨e0, e5, trivial⟩ ?_
      rintro ρ ⟨e0, e5, -⟩
      refine wpC_region ?_
      refine wpR_val (v := (Value.int .i64 (p1.tmod (p0.len : Int)))) (w' := w0) rfl rfl rfl (x_move (v := (Value.int .i64 (p1.tmod (p0.len : Int)))) rfl e5) ?_
      refine wpR_val (v := (Sl.v p0)) (w' := w0) rfl rfl rfl (x_move (v := (Sl.v p0)) rfl e0) ?_
      refine wpR_val (v := (Value.int .i64 (p0.len : Int))) (w' := w0) rfl rfl rfl (x_lenS (s := p0) rfl rfl isSliceT_22) ?_
      refine wpR_val (v := (Value.int .i64 (IntKind.i64.wrap ((p1.tmod (p0.len : Int)) + (p0.len : Int))))) (w' := w0) rfl rfl rfl (x_add rfl rfl rfl) ?_
      refine wpR_val (v := (Value.int .i64 (IntKind.i64.wrap ((p1.tmod (p0.len : Int)) + (p0.len : Int))))) (w' := w0) rfl rfl rfl (x_assign (v := (Value.int .i64 (IntKind.i64.wrap ((p1.tmod (p0.len : Int)) + (p0.len : Int))))) rfl rfl) ?_
      refine wpR_nil ?_
      exact ⟨IntKind.i64.wrap ((p1.tmod (p0.len : Int)) + (p0.len : Int)), ⟨rfl, e0, trivial⟩, h⟩
    · replace h := h.2 hc4
      refine wpC_skip ?_
      exact ⟨p1.tmod (p0.len : Int), ⟨e5, e0, trivial⟩, h⟩
  clear h
  rintro l3 ρ w1 ⟨e5, e0, -⟩ h
  replace h := hk l3 w1 h
  clear hk
  refine wpC_seq ?_
  refine wpC_region ?_
  refine wpR_val (v := (Sl.v p0)) (w' := w1) rfl rfl rfl (x_move (v := (Sl.v p0)) rfl e0) ?_
  refine wpR_val (v := (Value.int .i64 l3)) (w' := w1) rfl rfl rfl (x_move (v := (Value.int .i64 l3)) rfl e5) ?_
  obtain ⟨q5, z5, r5, h⟩ := h
  generalize hp5 : z5.add ((l3 : Int).toNat * 1) = p5 at h
  refine wpR_val (v := (Value.pointer (some p5))) (w' := w1) rfl rfl rfl ((x_indexAddr (s := p0) rfl rfl rfl ES_22 q5 r5).trans (by rw [hp5])) ?_
  obtain ⟨x6, q6, h⟩ := h
  refine wpR_val (v := (Value.int .i64 x6)) (w' := w1) rfl rfl rfl (x_load1 rfl rfl SH_3 q6) ?_
  refine wpR_val (v := (Value.int .i64 x6)) (w' := w1) rfl rfl rfl (x_assign (v := (Value.int .i64 x6)) rfl rfl) ?_
  refine wpR_nil ?_
  refine wpC_ret ?_
  exact ⟨.inl rfl, fun a ha => ⟨_, results_rep1 rfl ha rfl, x6, rfl, h⟩⟩

/-- (*link.Sender).Copy -/
def F24 (p0 : Option Addr) (w0 : World) (K : (Option Addr) → World → Prop) : Prop :=
  nn p0 fun a1 =>
  ld (Value.int .i64) (a1.add 0) w0 fun x2 =>
  ld (Value.int .i64) (a1.add 1) w0 fun x3 =>
  ld (Value.int .i64) (a1.add 2) w0 fun x4 =>
  nw 60 #[(Value.int .i64 0), (Value.int .i64 0), (Value.int .i64 0)] w0 fun b5 w1 =>
  st (Addr.mk b5 0 none) [(Value.int .i64 x2), (Value.int .i64 x3), (Value.int .i64 x4)] w1 fun w2 =>
  K (some (Addr.mk b5 0 none)) w2
set_option maxRecDepth 100000 in
theorem D24 (p0 : Option Addr) (w0 : World) (K : (Option Addr) → World → Prop) (h : F24 p0 w0 K) : callC Try.prog 24 #[(Value.pointer p0)] (fun (r : (Option Addr)) => (Value.pointer r)) w0 K := by
  unfold F24 at h
  refine calls_of_wpC Try.func24 rfl 7 rfl (by simp) ?_
  intro ρ hρ
  have e0 : ρ 0 = (Value.pointer p0) := hρ 0
  clear hρ
  refine wpC_seq ?_
  refine wpC_region ?_
  refine wpR_val (v := (Value.pointer none)) (w' := w0) rfl rfl rfl (x_assign (v := (Value.pointer none)) rfl rfl) ?_
  refine wpR_nil ?_
  refine wpC_seq ?_
  refine wpC_cut (fun ρ => ρ 0 = (Value.pointer p0) ∧ True) ⟨e0, trivial⟩ ?_
  rintro ρ ⟨e0, -⟩
  refine wpC_region ?_
  refine wpR_val (v := (Value.pointer p0)) (w' := w0) rfl rfl rfl (x_move (v := (Value.pointer p0)) rfl e0) ?_
  obtain ⟨a1, q1, h⟩ := h
  refine wpR_val (v := (Value.pointer (some a1))) (w' := w0) rfl rfl rfl (x_nilCheck rfl rfl q1) ?_
  obtain ⟨x2, q2, h⟩ := h
  obtain ⟨x3, q3, h⟩ := h
  obtain ⟨x4, q4, h⟩ := h
  refine wpR_val (v := (Value.agg #[(Value.int .i64 x2), (Value.int .i64 x3), (Value.int .i64 x4)])) (w' := w0) rfl rfl rfl (x_loadN [(Value.int .i64 x2), (Value.int .i64 x3), (Value.int .i64 x4)] rfl rfl SH_60 (CellsAt.out (CellsAt.cons q2 (CellsAt.cons q3 (CellsAt.cons q4 CellsAt.nil))))) ?_
  obtain ⟨b5, hb5⟩ : ∃ u, u = w0.heap.size := ⟨_, rfl⟩
  obtain ⟨w1, hw5⟩ : ∃ u, u = w0.alloc (.cells #[(Value.int .i64 0), (Value.int .i64 0), (Value.int .i64 0)] 60) := ⟨_, rfl⟩
  replace h := h b5 w1 hb5 hw5
  refine wpR_val (v := (Value.pointer (some (Addr.mk b5 0 none)))) (w' := w1) rfl rfl rfl ((x_alloc rfl ZV_60).trans (by rw [hb5, hw5]; rfl)) ?_
  obtain ⟨q6, h⟩ := h
  obtain ⟨w2, hw6⟩ : ∃ u, u = setAll w1 (Addr.mk b5 0 none) [(Value.int .i64 x2), (Value.int .i64 x3), (Value.int .i64 x4)] 0 := ⟨_, rfl⟩
  replace h := h w2 hw6
  refine wpR_skp (w' := w2) rfl rfl ((x_store (v := (Value.agg #[(Value.int .i64 x2), (Value.int .i64 x3), (Value.int .i64 x4)])) rfl rfl rfl SZ_60 (ones (by rfl)) q6).trans (by rw [hw6]; rfl)) ?_
  refine wpR_nil ?_
  refine wpC_seq ?_
  refine wpC_cut (fun ρ => ρ 3 = (Value.pointer (some (Addr.mk b5 0 none))) ∧ True) ⟨rfl, trivial⟩ ?_
  rintro ρ ⟨e3, -⟩
  refine wpC_region ?_
  refine wpR_val (v := (Value.pointer (some (Addr.mk b5 0 none)))) (w' := w2) rfl rfl rfl (x_assign (v := (Value.pointer (some (Addr.mk b5 0 none)))) rfl e3) ?_
  refine wpR_nil ?_
  refine wpC_ret ?_
  exact ⟨.inl rfl, fun a ha => ⟨_, results_rep1 rfl ha rfl, some (Addr.mk b5 0 none), rfl, h⟩⟩

/-- (*link.Receiver).Copy -/
def F25 (p0 : Option Addr) (w0 : World) (K : (Option Addr) → World → Prop) : Prop :=
  jn (fun (J2 : (Option Addr) → World → Prop) => tk w0 fun w1 =>
    nn p0 fun a3 =>
    ld (Value.int .i64) (a3.add 0) w1 fun x4 =>
    nn p0 fun a5 =>
    ld (Value.int .i64) (a5.add 1) w1 fun x6 =>
    nn p0 fun a7 =>
    ld Value.map (a7.add 2) w1 fun x8 =>
    callC Try.prog 27 #[(Value.map x8)] (fun (r : (Option Nat)) => (Value.map r)) w1 fun r9 w2 =>
    (w2.cell? (a5.add 1) = some (Value.int .i64 x6)) ∧
    (w2.cell? (a3.add 0) = some (Value.int .i64 x4)) ∧
    nw 64 #[(Value.int .i64 x4), (Value.int .i64 x6), (Value.map r9)] w2 fun b10 w3 =>
    (w3.cell? (a5.add 1) = some (Value.int .i64 x6)) ∧
    (w3.cell? (a3.add 0) = some (Value.int .i64 x4)) ∧
    J2 (some (Addr.mk b10 0 none)) w3
  )
  fun l11 w4 =>
  K l11 w4
set_option maxRecDepth 100000 in
theorem D25 (p0 : Option Addr) (w0 : World) (K : (Option Addr) → World → Prop) (h : F25 p0 w0 K) : callC Try.prog 25 #[(Value.pointer p0)] (fun (r : (Option Addr)) => (Value.pointer r)) w0 K := by
  unfold F25 at h
  refine calls_of_wpC Try.func25 rfl 18 rfl (by simp) ?_
  intro ρ hρ
  have e0 : ρ 0 = (Value.pointer p0) := hρ 0
  clear hρ
  refine wpC_seq ?_
  refine wpC_region ?_
  refine wpR_val (v := (Value.pointer none)) (w' := w0) rfl rfl rfl (x_assign (v := (Value.pointer none)) rfl rfl) ?_
  refine wpR_nil ?_
  refine wpC_seq ?_
  refine wpC_cut (fun ρ => ρ 0 = (Value.pointer p0) ∧ True) ⟨e0, trivial⟩ ?_
  rintro ρ ⟨e0, -⟩
  obtain ⟨J2, h, hk⟩ := h
  refine wpC_drawJ (by kernel_rfl) (fun (x : (Option Addr)) ρ => ρ 2 = (Value.pointer x) ∧ True) J2 ?_ ?_
  · clear hk
    unfold tk at h
    generalize w0.drew = w1 at h ⊢
    refine wpD_take (v := (Value.pointer p0)) 0 (fun _ => True) rfl (by kernel_rfl) (by kernel_rfl) (by kernel_rfl) rfl rfl rfl trivial (fun w _ => (x_move (v := (Value.pointer p0)) rfl e0)) ?_
    obtain ⟨a3, q3, h⟩ := h
    refine wpD_take (v := (Value.pointer (some a3))) 1 (fun _ => True) rfl (by kernel_rfl) (by kernel_rfl) (by kernel_rfl) rfl rfl rfl trivial (fun w _ => (x_nilCheck rfl rfl q3)) ?_
    refine wpD_take (v := (Value.pointer (some (a3.add 0)))) 2 (fun _ => True) rfl (by kernel_rfl) (by kernel_rfl) (by kernel_rfl) rfl rfl rfl trivial (fun w _ => (x_fieldAddr rfl rfl FA_64_0)) ?_
    obtain ⟨x4, q4, h⟩ := h
    refine wpD_take (v := (Value.int .i64 x4)) 3 (fun w => w.cell? (a3.add 0) = some (Value.int .i64 x4)) rfl (by kernel_rfl) (by kernel_rfl) (by kernel_rfl) rfl rfl rfl q4 (fun w q4 => (x_load1 rfl rfl SH_3 q4)) ?_
    refine wpD_take (v := (Value.pointer p0)) 4 (fun _ => True) rfl (by kernel_rfl) (by kernel_rfl) (by kernel_rfl) rfl rfl rfl trivial (fun w _ => (x_move (v := (Value.pointer p0)) rfl e0)) ?_
    obtain ⟨a5, q5, h⟩ := h
    refine wpD_take (v := (Value.pointer (some a5))) 5 (fun _ => True) rfl (by kernel_rfl) (by kernel_rfl) (by kernel_rfl) rfl rfl rfl trivial (fun w _ => (x_nilCheck rfl rfl q5)) ?_
    refine wpD_take (v := (Value.pointer (some (a5.add 1)))) 6 (fun _ => True) rfl (by kernel_rfl) (by kernel_rfl) (by kernel_rfl) rfl rfl rfl trivial (fun w _ => (x_fieldAddr rfl rfl FA_64_1)) ?_
    obtain ⟨x6, q6, h⟩ := h
    refine wpD_take (v := (Value.int .i64 x6)) 7 (fun w => w.cell? (a5.add 1) = some (Value.int .i64 x6)) rfl (by kernel_rfl) (by kernel_rfl) (by kernel_rfl) rfl rfl rfl q6 (fun w q6 => (x_load1 rfl rfl SH_3 q6)) ?_
    refine wpD_take (v := (Value.pointer p0)) 8 (fun _ => True) rfl (by kernel_rfl) (by kernel_rfl) (by kernel_rfl) rfl rfl rfl trivial (fun w _ => (x_move (v := (Value.pointer p0)) rfl e0)) ?_
    obtain ⟨a7, q7, h⟩ := h
    refine wpD_take (v := (Value.pointer (some a7))) 9 (fun _ => True) rfl (by kernel_rfl) (by kernel_rfl) (by kernel_rfl) rfl rfl rfl trivial (fun w _ => (x_nilCheck rfl rfl q7)) ?_
    refine wpD_take (v := (Value.pointer (some (a7.add 2)))) 10 (fun _ => True) rfl (by kernel_rfl) (by kernel_rfl) (by kernel_rfl) rfl rfl rfl trivial (fun w _ => (x_fieldAddr rfl rfl FA_64_2)) ?_
    obtain ⟨x8, q8, h⟩ := h
    refine wpD_take (v := (Value.map x8)) 11 (fun w => w.cell? (a7.add 2) = some (Value.map x8)) rfl (by kernel_rfl) (by kernel_rfl) (by kernel_rfl) rfl rfl rfl q8 (fun w q8 => (x_load1 rfl rfl SH_62 q8)) ?_
    refine wpD_all (rs := [12]) (by kernel_rfl) (by simp) (allD_cons ?_ allD_nil)
    refine stepD_enterL (L' := [(10, fun _ => True), (9, fun _ => True), (8, fun _ => True), (7, fun w => w.cell? (a5.add 1) = some (Value.int .i64 x6)), (6, fun _ => True), (5, fun _ => True), (4, fun _ => True), (3, fun w => w.cell? (a3.add 0) = some (Value.int .i64 x4)), (2, fun _ => True), (1, fun _ => True), (0, fun _ => True)]) rfl rfl rfl rfl (x_call (vs := [(Value.map x8)]) rfl rfl (mapl_cons rfl mapl_nil) Try.func27 NN_27 NB_27) (by kernel_rfl) (Calls.mono h ?_)
    rintro _ w2 ⟨r9, rfl, h⟩
    obtain ⟨o7, h⟩ := h
    obtain ⟨o3, h⟩ := h
    refine ⟨_, rfl, (held_cons trivial (held_cons trivial (held_cons trivial (held_cons o7 (held_cons trivial (held_cons trivial (held_cons trivial (held_cons o3 (held_cons trivial (held_cons trivial (held_cons trivial held_nil))))))))))), ?_⟩
    refine wpD_take (v := (Value.agg #[(Value.int .i64 x4), (Value.int .i64 x6), (Value.map r9)])) 13 (fun _ => True) rfl (by kernel_rfl) (by kernel_rfl) (by kernel_rfl) rfl rfl rfl trivial (fun w _ => (x_build (qs := [(0, (Value.int .i64 x4)), (1, (Value.int .i64 x6)), (2, (Value.map r9))]) rfl (by rfl) (BD_64_0_1_2 x4 x6 r9 _))) ?_
    refine wpD_all (rs := [14]) (by kernel_rfl) (by simp) (allD_cons ?_ allD_nil)
    obtain ⟨b10, hb10⟩ : ∃ u, u = w2.heap.size := ⟨_, rfl⟩
    obtain ⟨w3, hw10⟩ : ∃ u, u = w2.alloc (.cells #[(Value.int .i64 x4), (Value.int .i64 x6), (Value.map r9)] 64) := ⟨_, rfl⟩
    replace h := h b10 w3 hb10 hw10
    obtain ⟨o7, h⟩ := h
    obtain ⟨o3, h⟩ := h
    refine stepD_valL (L' := [(10, fun _ => True), (9, fun _ => True), (8, fun _ => True), (7, fun w => w.cell? (a5.add 1) = some (Value.int .i64 x6)), (6, fun _ => True), (5, fun _ => True), (4, fun _ => True), (3, fun w => w.cell? (a3.add 0) = some (Value.int .i64 x4)), (2, fun _ => True), (1, fun _ => True), (0, fun _ => True)]) (v := (Value.pointer (some (Addr.mk b10 0 none)))) (w' := w3) rfl rfl rfl rfl ((x_box (v := (Value.agg #[(Value.int .i64 x4), (Value.int .i64 x6), (Value.map r9)])) rfl rfl).trans (by rw [hb10, hw10]; rfl)) (by kernel_rfl) (held_cons trivial (held_cons trivial (held_cons trivial (held_cons o7 (held_cons trivial (held_cons trivial (held_cons trivial (held_cons o3 (held_cons trivial (held_cons trivial (held_cons trivial held_nil))))))))))) ?_
    refine wpD_take (v := (Value.pointer (some (Addr.mk b10 0 none)))) 15 (fun _ => True) rfl (by kernel_rfl) (by kernel_rfl) (by kernel_rfl) rfl rfl rfl trivial (fun w _ => (x_assign (v := (Value.pointer (some (Addr.mk b10 0 none)))) rfl rfl)) ?_
    exact wpD_done (by kernel_rfl) ⟨some (Addr.mk b10 0 none), ⟨rfl, trivial⟩, h⟩
  clear h
  rintro l11 ρ w4 ⟨e2, -⟩ h
  replace h := hk l11 w4 h
  clear hk
  refine wpC_ret ?_
  exact ⟨.inl rfl, fun a ha => ⟨_, results_rep1 rfl ha e2, l11, rfl, h⟩⟩

/-- linguaref31.window -/
def F26 (p0 : Int) (w0 : World) (K : Bool → World → Prop) : Prop :=
  K ((decide (1 ≤ p0)) && (decide (p0 ≤ 64))) w0
set_option maxRecDepth 100000 in
theorem D26 (p0 : Int) (w0 : World) (K : Bool → World → Prop) (h : F26 p0 w0 K) : callC Try.prog 26 #[(Value.int .i64 p0)] (fun (r : Bool) => (Value.bool r)) w0 K := by
  unfold F26 at h
  refine calls_of_wpC Try.func26 rfl 9 rfl (by simp) ?_
  intro ρ hρ
  have e0 : ρ 0 = (Value.int .i64 p0) := hρ 0
  clear hρ
  refine wpC_seq ?_
  refine wpC_region ?_
  refine wpR_val (v := (Value.bool false)) (w' := w0) rfl rfl rfl (x_assign (v := (Value.bool false)) rfl rfl) ?_
  refine wpR_nil ?_
  refine wpC_seq ?_
  refine wpC_cut (fun ρ => ρ 0 = (Value.int .i64 p0) ∧ True) ⟨e0, trivial⟩ ?_
  rintro ρ ⟨e0, -⟩
  refine wpC_region ?_
  refine wpR_val (v := (Value.int .i64 p0)) (w' := w0) rfl rfl rfl (x_move (v := (Value.int .i64 p0)) rfl e0) ?_
  refine wpR_val (v := (Value.bool (decide (1 ≤ p0)))) (w' := w0) rfl rfl rfl (x_geq rfl rfl rfl) ?_
  refine wpR_val (v := (Value.bool (decide (1 ≤ p0)))) (w' := w0) rfl rfl rfl (x_move (v := (Value.bool (decide (1 ≤ p0)))) rfl rfl) ?_
  refine wpR_joinJ 3 (fun (_ : Unit) ρ => ρ 8 = Value.bool ((decide (1 ≤ p0)) && (decide (p0 ≤ 64))) ∧ True) (fun _ w => w0 = w) ?_ ?_
  · clear h
    rcases Bool.eq_false_or_eq_true (decide (1 ≤ p0)) with hc2 | hc2
    · skip
      refine wpR_val (v := (Value.int .i64 p0)) (w' := w0) (wantG rfl rfl rfl hc2) rfl rfl (x_move (v := (Value.int .i64 p0)) rfl e0) ?_
      refine wpR_val (v := (Value.bool (decide (p0 ≤ 64)))) (w' := w0) (wantG rfl rfl rfl hc2) rfl rfl (x_leq rfl rfl rfl) ?_
      refine wpR_val (v := (Value.bool (decide (p0 ≤ 64)))) (w' := w0) rfl rfl rfl (x_pickT (v := (Value.bool (decide (p0 ≤ 64)))) rfl rfl hc2 rfl) ?_
      refine wpR_nil ?_
      exact ⟨(), ⟨(by rw [hc2]; rfl), trivial⟩, rfl⟩
    · skip
      refine wpR_pass (wantN rfl rfl rfl hc2) rfl rfl ?_
      refine wpR_pass (wantN rfl rfl rfl hc2) rfl rfl ?_
      refine wpR_val (v := (Value.bool false)) (w' := w0) rfl rfl rfl (x_pickF (v := (Value.bool false)) rfl rfl hc2 rfl) ?_
      refine wpR_nil ?_
      exact ⟨(), ⟨(by rw [hc2]; rfl), trivial⟩, rfl⟩
  rintro _ ρ wj ⟨e8, -⟩ rfl
  refine wpR_val (v := (Value.bool ((decide (1 ≤ p0)) && (decide (p0 ≤ 64))))) (w' := w0) rfl rfl rfl (x_assign (v := (Value.bool ((decide (1 ≤ p0)) && (decide (p0 ≤ 64))))) rfl e8) ?_
  refine wpR_nil ?_
  refine wpC_ret ?_
  exact ⟨.inl rfl, fun a ha => ⟨_, results_rep1 rfl ha rfl, (decide (1 ≤ p0)) && (decide (p0 ≤ 64)), rfl, h⟩⟩

/-- maps.Clone[map[int]bool,int,bool] -/
def F27 (p0 : Option Nat) (w0 : World) (K : (Option Nat) → World → Prop) : Prop :=
  cnd (p0.isNone)
    (
    K none w0
    )
    (
    rn Try.prog (Instr.makeInterface 62 (Value.map p0)) (fun v : Value => v) w0 fun r2 w1 =>
    cx Try.prog 28 [r2] (fun (r : Value) => r) w1 fun r3 w2 =>
    rn Try.prog (Instr.typeAssert r3 20 62 false) (fun (r : (Option Nat)) => (Value.map r)) w2 fun r4 w3 =>
    K r4 w3
    )
set_option maxRecDepth 100000 in
theorem D27 (p0 : Option Nat) (w0 : World) (K : (Option Nat) → World → Prop) (h : F27 p0 w0 K) : callC Try.prog 27 #[(Value.map p0)] (fun (r : (Option Nat)) => (Value.map r)) w0 K := by
  unfold F27 at h
  refine calls_of_wpC Try.func27 rfl 9 rfl (by simp) ?_
  intro ρ hρ
  have e0 : ρ 0 = (Value.map p0) := hρ 0
  clear hρ
  refine wpC_seq ?_
  refine wpC_region ?_
  refine wpR_val (v := (Value.map none)) (w' := w0) rfl rfl rfl (x_assign (v := (Value.map none)) rfl rfl) ?_
  refine wpR_nil ?_
  refine wpC_seq ?_
  refine wpC_seq ?_
  refine wpC_cut (fun ρ => ρ 0 = (Value.map p0) ∧ True) ⟨e0, trivial⟩ ?_
  rintro ρ ⟨e0, -⟩
  refine wpC_region ?_
  refine wpR_val (v := (Value.map p0)) (w' := w0) rfl rfl rfl (x_move (v := (Value.map p0)) rfl e0) ?_
  refine wpR_val (v := (Value.bool p0.isNone)) (w' := w0) rfl rfl rfl (x_eqlNilM rfl rfl rfl isMapT_62) ?_
  refine wpR_nil ?_
  refine wpC_cond (b := p0.isNone) rfl (fun hc1 => ?_) (fun hc1 => ?_)
  · replace h := h.1 hc1
    refine wpC_seq ?_
    refine wpC_cut (fun ρ => True) trivial ?_
    rintro ρ -
    refine wpC_region ?_
    refine wpR_val (v := (Value.map none)) (w' := w0) rfl rfl rfl (x_assign (v := (Value.map none)) rfl rfl) ?_
    refine wpR_nil ?_
    refine wpC_ret ?_
    exact ⟨.inl rfl, fun a ha => ⟨_, results_rep1 rfl ha rfl, none, rfl, h⟩⟩
  · replace h := h.2 hc1
    refine wpC_skip ?_
    refine wpC_seq ?_
    refine wpC_cut (fun ρ => ρ 0 = (Value.map p0) ∧ True) ⟨e0, trivial⟩ ?_
    rintro ρ ⟨e0, -⟩
    refine wpC_region ?_
    refine wpR_val (v := (Value.map p0)) (w' := w0) rfl rfl rfl (x_move (v := (Value.map p0)) rfl e0) ?_
    obtain ⟨r2, w1, q2, h⟩ := h
    refine wpR_val (v := r2) (w' := w1) rfl rfl rfl (x_makeInterface rfl rfl q2) ?_
    obtain ⟨r3, w2, q3, h⟩ := h
    refine wpR_val (v := r3) (w' := w2) rfl rfl rfl (x_callx (vs := [r2]) rfl rfl (mapl_cons rfl mapl_nil) q3) ?_
    obtain ⟨r4, w3, q4, h⟩ := h
    refine wpR_val (v := (Value.map r4)) (w' := w3) rfl rfl rfl (x_typeAssert rfl rfl q4) ?_
    refine wpR_val (v := (Value.map r4)) (w' := w3) rfl rfl rfl (x_assign (v := (Value.map r4)) rfl rfl) ?_
    refine wpR_nil ?_
    refine wpC_ret ?_
    exact ⟨.inl rfl, fun a ha => ⟨_, results_rep1 rfl ha rfl, r4, rfl, h⟩⟩


end Go.Proofs.Ytaogjbmgobfdoaa
