import Derived.Test.YtmnhehklhelpeaaRows
import Derived.Test.YtmnhehklhelpeaaFs1
import Derived.Test.YtmnhehklhelpeaaDecRaw
namespace Go.Proofs.Ytmnhehklhelpeaa
open Go.Dec
set_option maxHeartbeats 400000
set_option maxRecDepth 100000

/-- linguaref06.On -/
def F41 (p0 : Sl) (p1 : Int) (w0 : World) (K : (Int × Bool) → World → Prop) : Prop :=
  rn Try.prog (Instr.sliceAt 25 (Sl.v p0) none (some (Value.int .i64 (min p1 (p0.len : Int)))) none) (fun (r : Sl) => (Sl.v r)) w0 fun r9 w1 =>
  callC Try.prog 45 #[(Sl.v r9)] (fun (r : Sl) => (Sl.v r)) w1 fun r10 w2 =>
  lp (fun (next11 : Int → World → Prop) l11 w3 =>
    cnd (decide (l11 < (p0.len : Int)))
      (
      jn (fun (J14 : Bool → World → Prop) => tk w3 fun w4 =>
        ix p0 l11 2 fun p15 =>
        ld (Value.int .i64) (p15.add 0) w4 fun x16 =>
        ix p0 l11 2 fun p17 =>
        ld (Value.int .i64) (p17.add 1) w4 fun x18 =>
        callC Try.prog 46 #[(Sl.v r9), (Sl.v r10), (Value.int .i64 x16)] (fun (r : Int) => (Value.int .i64 r)) w4 fun r19 w5 =>
        (w5.cell? (p17.add 1) = some (Value.int .i64 x18)) ∧
        J14 (!decide (r19 = x18)) w5
      )
      fun l20 w6 =>
      cnd (l20)
        (
        K (0, false) w6
        )
        (
        next11 (IntKind.i64.wrap (l11 + 1)) w6
        )
      )
      (
      callC Try.prog 46 #[(Sl.v r9), (Sl.v r10), (Value.int .i64 0)] (fun (r : Int) => (Value.int .i64 r)) w3 fun r22 w7 =>
      K (r22, true) w7
      )
  ) p1 w2
set_option maxRecDepth 100000 in
theorem D41 (p0 : Sl) (p1 : Int) (w0 : World) (K : (Int × Bool) → World → Prop) (h : F41 p0 p1 w0 K) : callC Try.prog 41 #[(Sl.v p0), (Value.int .i64 p1)] (fun (r : Int × Bool) => (Value.tuple #[(Value.int .i64 r.1), (Value.bool r.2)])) w0 K := by
  unfold F41 at h
  refine calls_of_wpC Try.func41 rfl 41 rfl (by simp) ?_
  intro ρ hρ
  have e0 : ρ 0 = (Sl.v p0) := hρ 0
  have e1 : ρ 1 = (Value.int .i64 p1) := hρ 1
  clear hρ
  refine wpC_seq ?_
  refine wpC_region ?_
  refine wpR_val (v := (Value.int .i64 0)) (w' := w0) rfl rfl rfl (x_assign (v := (Value.int .i64 0)) rfl rfl) ?_
  refine wpR_val (v := (Value.bool false)) (w' := w0) rfl rfl rfl (x_assign (v := (Value.bool false)) rfl rfl) ?_
  refine wpR_nil ?_
  refine wpC_seq ?_
  refine wpC_cut (fun ρ => ρ 0 = (Sl.v p0) ∧ ρ 1 = (Value.int .i64 p1) ∧ True) ⟨e0, e1, trivial⟩ ?_
  rintro ρ ⟨e0, e1, -⟩
  refine wpC_region ?_
  refine wpR_val (v := (Sl.v p0)) (w' := w0) rfl rfl rfl (x_move (v := (Sl.v p0)) rfl e0) ?_
  refine wpR_val (v := (Value.int .i64 p1)) (w' := w0) rfl rfl rfl (x_move (v := (Value.int .i64 p1)) rfl e1) ?_
  refine wpR_val (v := (Sl.v p0)) (w' := w0) rfl rfl rfl (x_move (v := (Sl.v p0)) rfl e0) ?_
  refine wpR_val (v := (Value.int .i64 (p0.len : Int))) (w' := w0) rfl rfl rfl (x_lenS (s := p0) rfl rfl isSliceT_25) ?_
  refine wpR_val (v := (Value.int .i64 (min p1 (p0.len : Int)))) (w' := w0) rfl rfl rfl (x_min rfl rfl rfl) ?_
  obtain ⟨r9, w1, q9, h⟩ := h
  refine wpR_val (v := (Sl.v r9)) (w' := w1) rfl rfl rfl (x_sliceAt rfl rfl rfl (congrArg some rfl) rfl q9) ?_
  refine wpR_val (v := (Sl.v r9)) (w' := w1) rfl rfl rfl (x_assign (v := (Sl.v r9)) rfl rfl) ?_
  refine wpR_nil ?_
  refine wpC_seq ?_
  refine wpC_cut (fun ρ => ρ 0 = (Sl.v p0) ∧ ρ 1 = (Value.int .i64 p1) ∧ ρ 6 = (Sl.v r9) ∧ True) ⟨e0, e1, rfl, trivial⟩ ?_
  rintro ρ ⟨e0, e1, e6, -⟩
  refine wpC_region ?_
  refine wpR_val (v := (Sl.v r9)) (w' := w1) rfl rfl rfl (x_move (v := (Sl.v r9)) rfl e6) ?_
  refine wpR_enter rfl rfl rfl (x_call (vs := [(Sl.v r9)]) rfl rfl (mapl_cons rfl mapl_nil) Try.func45 NN_45 NB_45) (Calls.mono h ?_)
  rintro _ w2 ⟨r10, rfl, h⟩
  refine ⟨_, rfl, ?_⟩
  refine wpR_val (v := (Sl.v r10)) (w' := w2) rfl rfl rfl (x_assign (v := (Sl.v r10)) rfl rfl) ?_
  refine wpR_nil ?_
  refine wpC_seq ?_
  refine wpC_seq ?_
  refine wpC_cut (fun ρ => ρ 0 = (Sl.v p0) ∧ ρ 1 = (Value.int .i64 p1) ∧ ρ 6 = (Sl.v r9) ∧ ρ 7 = (Sl.v r10) ∧ True) ⟨e0, e1, e6, rfl, trivial⟩ ?_
  rintro ρ ⟨e0, e1, e6, e7, -⟩
  refine wpC_region ?_
  refine wpR_val (v := (Value.int .i64 p1)) (w' := w2) rfl rfl rfl (x_move (v := (Value.int .i64 p1)) rfl e1) ?_
  refine wpR_val (v := (Value.int .i64 p1)) (w' := w2) rfl rfl rfl (x_assign (v := (Value.int .i64 p1)) rfl rfl) ?_
  refine wpR_nil ?_
  refine wpC_block ?_
  obtain ⟨I11, μ11, hI11, hr11⟩ := h
  refine wpC_loop (fun (x : Int) ρ => ρ 8 = (Value.int .i64 x) ∧ ρ 0 = (Sl.v p0) ∧ ρ 6 = (Sl.v r9) ∧ ρ 7 = (Sl.v r10) ∧ True) I11 μ11 p1 ⟨rfl, e0, e6, e7, trivial⟩ hI11 ?_
  rintro l11 ρ w3 ⟨e8, e0, e6, e7, -⟩ h
  replace h := hr11 l11 w3 h
  clear hr11 hI11
  refine wpC_seq ?_
  refine wpC_seq ?_
  refine wpC_region ?_
  refine wpR_val (v := (Value.int .i64 l11)) (w' := w3) rfl rfl rfl (x_move (v := (Value.int .i64 l11)) rfl e8) ?_
  refine wpR_val (v := (Sl.v p0)) (w' := w3) rfl rfl rfl (x_move (v := (Sl.v p0)) rfl e0) ?_
  refine wpR_val (v := (Value.int .i64 (p0.len : Int))) (w' := w3) rfl rfl rfl (x_lenS (s := p0) rfl rfl isSliceT_25) ?_
  refine wpR_val (v := (Value.bool (decide (l11 < (p0.len : Int))))) (w' := w3) rfl rfl rfl (x_lss rfl rfl rfl) ?_
  refine wpR_nil ?_
  refine wpC_cond (b := decide (l11 < (p0.len : Int))) rfl (fun hc12 => ?_) (fun hc12 => ?_)
  · replace h := h.1 hc12
    refine wpC_skip ?_
    refine wpC_seq ?_
    refine wpC_block ?_
    refine wpC_seq ?_
    refine wpC_cut (fun ρ => ρ 0 = (Sl.v p0) ∧ ρ 6 = (Sl.v r9) ∧ ρ 7 = (Sl.v r10) ∧ ρ 8 = (Value.int .i64 l11) ∧ True) ⟨e0, e6, e7, e8, trivial⟩ ?_
    rintro ρ ⟨e0, e6, e7, e8, -⟩
    obtain ⟨J14, h, hk⟩ := h
    refine wpC_drawJ (by kernel_rfl) (fun (x : Bool) ρ => ρ 37 = (Value.bool x) ∧ ρ 0 = (Sl.v p0) ∧ ρ 6 = (Sl.v r9) ∧ ρ 7 = (Sl.v r10) ∧ ρ 8 = (Value.int .i64 l11) ∧ True) J14 ?_ ?_
    · clear hk
      unfold tk at h
      generalize w3.drew = w4 at h ⊢
      refine wpD_take (v := (Sl.v r9)) 0 (fun _ => True) rfl (by kernel_rfl) (by kernel_rfl) (by kernel_rfl) rfl rfl rfl trivial (fun w _ => (x_move (v := (Sl.v r9)) rfl e6)) ?_
      refine wpD_take (v := (Sl.v r10)) 1 (fun _ => True) rfl (by kernel_rfl) (by kernel_rfl) (by kernel_rfl) rfl rfl rfl trivial (fun w _ => (x_move (v := (Sl.v r10)) rfl e7)) ?_
      refine wpD_take (v := (Sl.v p0)) 2 (fun _ => True) rfl (by kernel_rfl) (by kernel_rfl) (by kernel_rfl) rfl rfl rfl trivial (fun w _ => (x_move (v := (Sl.v p0)) rfl e0)) ?_
      refine wpD_take (v := (Value.int .i64 l11)) 3 (fun _ => True) rfl (by kernel_rfl) (by kernel_rfl) (by kernel_rfl) rfl rfl rfl trivial (fun w _ => (x_move (v := (Value.int .i64 l11)) rfl e8)) ?_
      obtain ⟨q15, z15, r15, h⟩ := h
      generalize hp15 : z15.add ((l11 : Int).toNat * 2) = p15 at h
      refine wpD_take (v := (Value.pointer (some p15))) 4 (fun _ => True) rfl (by kernel_rfl) (by kernel_rfl) (by kernel_rfl) rfl rfl rfl trivial (fun w _ => ((x_indexAddr (s := p0) rfl rfl rfl ES_25 q15 r15).trans (by rw [hp15]))) ?_
      refine wpD_take (v := (Value.pointer (some (p15.add 0)))) 5 (fun _ => True) rfl (by kernel_rfl) (by kernel_rfl) (by kernel_rfl) rfl rfl rfl trivial (fun w _ => (x_fieldAddr rfl rfl FA_56_0)) ?_
      obtain ⟨x16, q16, h⟩ := h
      refine wpD_take (v := (Value.int .i64 x16)) 6 (fun w => w.cell? (p15.add 0) = some (Value.int .i64 x16)) rfl (by kernel_rfl) (by kernel_rfl) (by kernel_rfl) rfl rfl rfl q16 (fun w q16 => (x_load1 rfl rfl SH_3 q16)) ?_
      refine wpD_take (v := (Sl.v p0)) 8 (fun _ => True) rfl (by kernel_rfl) (by kernel_rfl) (by kernel_rfl) rfl rfl rfl trivial (fun w _ => (x_move (v := (Sl.v p0)) rfl e0)) ?_
      refine wpD_take (v := (Value.int .i64 l11)) 9 (fun _ => True) rfl (by kernel_rfl) (by kernel_rfl) (by kernel_rfl) rfl rfl rfl trivial (fun w _ => (x_move (v := (Value.int .i64 l11)) rfl e8)) ?_
      obtain ⟨q17, z17, r17, h⟩ := h
      generalize hp17 : z17.add ((l11 : Int).toNat * 2) = p17 at h
      refine wpD_take (v := (Value.pointer (some p17))) 10 (fun _ => True) rfl (by kernel_rfl) (by kernel_rfl) (by kernel_rfl) rfl rfl rfl trivial (fun w _ => ((x_indexAddr (s := p0) rfl rfl rfl ES_25 q17 r17).trans (by rw [hp17]))) ?_
      refine wpD_take (v := (Value.pointer (some (p17.add 1)))) 11 (fun _ => True) rfl (by kernel_rfl) (by kernel_rfl) (by kernel_rfl) rfl rfl rfl trivial (fun w _ => (x_fieldAddr rfl rfl FA_56_1)) ?_
      obtain ⟨x18, q18, h⟩ := h
      refine wpD_take (v := (Value.int .i64 x18)) 12 (fun w => w.cell? (p17.add 1) = some (Value.int .i64 x18)) rfl (by kernel_rfl) (by kernel_rfl) (by kernel_rfl) rfl rfl rfl q18 (fun w q18 => (x_load1 rfl rfl SH_3 q18)) ?_
      refine wpD_all (rs := [7]) (by kernel_rfl) (by simp) (allD_cons ?_ allD_nil)
      refine stepD_enterL (L' := [(12, fun w => w.cell? (p17.add 1) = some (Value.int .i64 x18)), (11, fun _ => True), (10, fun _ => True), (9, fun _ => True), (8, fun _ => True), (5, fun _ => True), (4, fun _ => True), (3, fun _ => True), (2, fun _ => True)]) rfl rfl rfl rfl (x_call (vs := [(Sl.v r9), (Sl.v r10), (Value.int .i64 x16)]) rfl rfl (mapl_cons rfl (mapl_cons rfl (mapl_cons rfl mapl_nil))) Try.func46 NN_46 NB_46) (by kernel_rfl) (Calls.mono h ?_)
      rintro _ w5 ⟨r19, rfl, h⟩
      obtain ⟨o12, h⟩ := h
      refine ⟨_, rfl, (held_cons o12 (held_cons trivial (held_cons trivial (held_cons trivial (held_cons trivial (held_cons trivial (held_cons trivial (held_cons trivial (held_cons trivial held_nil))))))))), ?_⟩
      refine wpD_take (v := (Value.bool (!decide (r19 = x18)))) 13 (fun _ => True) rfl (by kernel_rfl) (by kernel_rfl) (by kernel_rfl) rfl rfl rfl trivial (fun w _ => (x_neq rfl rfl rfl)) ?_
      exact wpD_done (by kernel_rfl) ⟨!decide (r19 = x18), ⟨rfl, e0, e6, e7, e8, trivial⟩, h⟩
    clear h
    rintro l20 ρ w6 ⟨e37, e0, e6, e7, e8, -⟩ h
    replace h := hk l20 w6 h
    clear hk
    refine wpC_cond (b := l20) e37 (fun hc21 => ?_) (fun hc21 => ?_)
    · replace h := h.1 hc21
      refine wpC_seq ?_
      refine wpC_region ?_
      refine wpR_val (v := (Value.int .i64 0)) (w' := w6) rfl rfl rfl (x_assign (v := (Value.int .i64 0)) rfl rfl) ?_
      refine wpR_val (v := (Value.bool false)) (w' := w6) rfl rfl rfl (x_assign (v := (Value.bool false)) rfl rfl) ?_
      refine wpR_nil ?_
      refine wpC_ret ?_
      exact ⟨.inl rfl, fun a ha => ⟨_, results_rep2 rfl ha rfl rfl, (0, false), rfl, h⟩⟩
    · replace h := h.2 hc21
      refine wpC_skip ?_
      refine wpC_region ?_
      refine wpR_val (v := (Value.int .i64 l11)) (w' := w6) rfl rfl rfl (x_move (v := (Value.int .i64 l11)) rfl e8) ?_
      refine wpR_val (v := (Value.int .i64 (IntKind.i64.wrap (l11 + 1)))) (w' := w6) rfl rfl rfl (x_add rfl rfl rfl) ?_
      refine wpR_val (v := (Value.int .i64 (IntKind.i64.wrap (l11 + 1)))) (w' := w6) rfl rfl rfl (x_assign (v := (Value.int .i64 (IntKind.i64.wrap (l11 + 1)))) rfl rfl) ?_
      refine wpR_nil ?_
      exact ⟨IntKind.i64.wrap (l11 + 1), ⟨rfl, e0, e6, e7, trivial⟩, h⟩
  · replace h := h.2 hc12
    refine wpC_exit ?_
    refine wpC_seq ?_
    refine wpC_cut (fun ρ => ρ 6 = (Sl.v r9) ∧ ρ 7 = (Sl.v r10) ∧ True) ⟨e6, e7, trivial⟩ ?_
    rintro ρ ⟨e6, e7, -⟩
    refine wpC_region ?_
    refine wpR_val (v := (Sl.v r9)) (w' := w3) rfl rfl rfl (x_move (v := (Sl.v r9)) rfl e6) ?_
    refine wpR_val (v := (Sl.v r10)) (w' := w3) rfl rfl rfl (x_move (v := (Sl.v r10)) rfl e7) ?_
    refine wpR_enter rfl rfl rfl (x_call (vs := [(Sl.v r9), (Sl.v r10), (Value.int .i64 0)]) rfl rfl (mapl_cons rfl (mapl_cons rfl (mapl_cons rfl mapl_nil))) Try.func46 NN_46 NB_46) (Calls.mono h ?_)
    rintro _ w7 ⟨r22, rfl, h⟩
    refine ⟨_, rfl, ?_⟩
    refine wpR_val (v := (Value.int .i64 r22)) (w' := w7) rfl rfl rfl (x_assign (v := (Value.int .i64 r22)) rfl rfl) ?_
    refine wpR_val (v := (Value.bool true)) (w' := w7) rfl rfl rfl (x_assign (v := (Value.bool true)) rfl rfl) ?_
    refine wpR_nil ?_
    refine wpC_ret ?_
    exact ⟨.inl rfl, fun a ha => ⟨_, results_rep2 rfl ha rfl rfl, (r22, true), rfl, h⟩⟩

/-- slices.Clone[[]bool,bool] -/
def F42 (p0 : Sl) (w0 : World) (K : Sl → World → Prop) : Prop :=
  cnd (p0.a.isNone)
    (
    K Sl.nil w0
    )
    (
    nw 4 #[] w0 fun b10 w1 =>
    rn Try.prog (Builtin.append_ #[78, 78] 78 #[Sl.v (⟨some ⟨b10, 0, none⟩, 0, 0⟩ : Sl), Sl.v p0]) Sl.v w1 fun r11 w2 =>
    K r11 w2
    )
set_option maxRecDepth 100000 in
theorem D42 (p0 : Sl) (w0 : World) (K : Sl → World → Prop) (h : F42 p0 w0 K) : callC Try.prog 42 #[(Sl.v p0)] (fun (r : Sl) => (Sl.v r)) w0 K := by
  unfold F42 at h
  refine calls_of_wpC Try.func42 rfl 8 rfl (by simp) ?_
  intro ρ hρ
  have e0 : ρ 0 = (Sl.v p0) := hρ 0
  clear hρ
  refine wpC_seq ?_
  refine wpC_region ?_
  refine wpR_val (v := (Sl.v Sl.nil)) (w' := w0) rfl rfl rfl (x_assign (v := (Sl.v Sl.nil)) rfl rfl) ?_
  refine wpR_nil ?_
  refine wpC_seq ?_
  refine wpC_seq ?_
  refine wpC_cut (fun ρ => ρ 0 = (Sl.v p0) ∧ True) ⟨e0, trivial⟩ ?_
  rintro ρ ⟨e0, -⟩
  refine wpC_region ?_
  refine wpR_val (v := (Sl.v p0)) (w' := w0) rfl rfl rfl (x_move (v := (Sl.v p0)) rfl e0) ?_
  refine wpR_val (v := (Value.bool p0.a.isNone)) (w' := w0) rfl rfl rfl (x_eqlNilS (s := p0) rfl rfl rfl isSliceT_78) ?_
  refine wpR_nil ?_
  refine wpC_cond (b := p0.a.isNone) rfl (fun hc9 => ?_) (fun hc9 => ?_)
  · replace h := h.1 hc9
    refine wpC_seq ?_
    refine wpC_cut (fun ρ => True) trivial ?_
    rintro ρ -
    refine wpC_region ?_
    refine wpR_val (v := (Sl.v Sl.nil)) (w' := w0) rfl rfl rfl (x_assign (v := (Sl.v Sl.nil)) rfl rfl) ?_
    refine wpR_nil ?_
    refine wpC_ret ?_
    exact ⟨.inl rfl, fun a ha => ⟨_, results_rep1 rfl ha rfl, Sl.nil, rfl, h⟩⟩
  · replace h := h.2 hc9
    refine wpC_skip ?_
    refine wpC_seq ?_
    refine wpC_cut (fun ρ => ρ 0 = (Sl.v p0) ∧ True) ⟨e0, trivial⟩ ?_
    rintro ρ ⟨e0, -⟩
    refine wpC_region ?_
    obtain ⟨b10, hb10⟩ : ∃ u, u = w0.heap.size := ⟨_, rfl⟩
    obtain ⟨w1, hw10⟩ : ∃ u, u = w0.alloc (.cells #[] 4) := ⟨_, rfl⟩
    replace h := h b10 w1 hb10 hw10
    refine wpR_val (v := (Sl.v (⟨some ⟨b10, 0, none⟩, 0, 0⟩ : Sl))) (w' := w1) rfl rfl rfl ((x_buildSlice (qs := []) rfl (by rfl) (BS_78_0_ )).trans (by rw [← hb10, ← hw10])) ?_
    refine wpR_val (v := (Sl.v p0)) (w' := w1) rfl rfl rfl (x_move (v := (Sl.v p0)) rfl e0) ?_
    obtain ⟨r11, w2, q11, h⟩ := h
    refine wpR_val (v := (Sl.v r11)) (w' := w2) rfl rfl rfl (x_append (s := (⟨some ⟨b10, 0, none⟩, 0, 0⟩ : Sl)) (u := p0) rfl rfl rfl rfl q11) ?_
    refine wpR_val (v := (Sl.v r11)) (w' := w2) rfl rfl rfl (x_assign (v := (Sl.v r11)) rfl rfl) ?_
    refine wpR_nil ?_
    refine wpC_ret ?_
    exact ⟨.inl rfl, fun a ha => ⟨_, results_rep1 rfl ha rfl, r11, rfl, h⟩⟩

/-- slices.Clone[[]vault.box,vault.box] -/
def F43 (p0 : Sl) (w0 : World) (K : Sl → World → Prop) : Prop :=
  cnd (p0.a.isNone)
    (
    K Sl.nil w0
    )
    (
    nw 83 #[] w0 fun b10 w1 =>
    rn Try.prog (Builtin.append_ #[79, 79] 79 #[Sl.v (⟨some ⟨b10, 0, none⟩, 0, 0⟩ : Sl), Sl.v p0]) Sl.v w1 fun r11 w2 =>
    K r11 w2
    )
set_option maxRecDepth 100000 in
theorem D43 (p0 : Sl) (w0 : World) (K : Sl → World → Prop) (h : F43 p0 w0 K) : callC Try.prog 43 #[(Sl.v p0)] (fun (r : Sl) => (Sl.v r)) w0 K := by
  unfold F43 at h
  refine calls_of_wpC Try.func43 rfl 8 rfl (by simp) ?_
  intro ρ hρ
  have e0 : ρ 0 = (Sl.v p0) := hρ 0
  clear hρ
  refine wpC_seq ?_
  refine wpC_region ?_
  refine wpR_val (v := (Sl.v Sl.nil)) (w' := w0) rfl rfl rfl (x_assign (v := (Sl.v Sl.nil)) rfl rfl) ?_
  refine wpR_nil ?_
  refine wpC_seq ?_
  refine wpC_seq ?_
  refine wpC_cut (fun ρ => ρ 0 = (Sl.v p0) ∧ True) ⟨e0, trivial⟩ ?_
  rintro ρ ⟨e0, -⟩
  refine wpC_region ?_
  refine wpR_val (v := (Sl.v p0)) (w' := w0) rfl rfl rfl (x_move (v := (Sl.v p0)) rfl e0) ?_
  refine wpR_val (v := (Value.bool p0.a.isNone)) (w' := w0) rfl rfl rfl (x_eqlNilS (s := p0) rfl rfl rfl isSliceT_79) ?_
  refine wpR_nil ?_
  refine wpC_cond (b := p0.a.isNone) rfl (fun hc9 => ?_) (fun hc9 => ?_)
  · replace h := h.1 hc9
    refine wpC_seq ?_
    refine wpC_cut (fun ρ => True) trivial ?_
    rintro ρ -
    refine wpC_region ?_
    refine wpR_val (v := (Sl.v Sl.nil)) (w' := w0) rfl rfl rfl (x_assign (v := (Sl.v Sl.nil)) rfl rfl) ?_
    refine wpR_nil ?_
    refine wpC_ret ?_
    exact ⟨.inl rfl, fun a ha => ⟨_, results_rep1 rfl ha rfl, Sl.nil, rfl, h⟩⟩
  · replace h := h.2 hc9
    refine wpC_skip ?_
    refine wpC_seq ?_
    refine wpC_cut (fun ρ => ρ 0 = (Sl.v p0) ∧ True) ⟨e0, trivial⟩ ?_
    rintro ρ ⟨e0, -⟩
    refine wpC_region ?_
    obtain ⟨b10, hb10⟩ : ∃ u, u = w0.heap.size := ⟨_, rfl⟩
    obtain ⟨w1, hw10⟩ : ∃ u, u = w0.alloc (.cells #[] 83) := ⟨_, rfl⟩
    replace h := h b10 w1 hb10 hw10
    refine wpR_val (v := (Sl.v (⟨some ⟨b10, 0, none⟩, 0, 0⟩ : Sl))) (w' := w1) rfl rfl rfl ((x_buildSlice (qs := []) rfl (by rfl) (BS_79_0_ )).trans (by rw [← hb10, ← hw10])) ?_
    refine wpR_val (v := (Sl.v p0)) (w' := w1) rfl rfl rfl (x_move (v := (Sl.v p0)) rfl e0) ?_
    obtain ⟨r11, w2, q11, h⟩ := h
    refine wpR_val (v := (Sl.v r11)) (w' := w2) rfl rfl rfl (x_append (s := (⟨some ⟨b10, 0, none⟩, 0, 0⟩ : Sl)) (u := p0) rfl rfl rfl rfl q11) ?_
    refine wpR_val (v := (Sl.v r11)) (w' := w2) rfl rfl rfl (x_assign (v := (Sl.v r11)) rfl rfl) ?_
    refine wpR_nil ?_
    refine wpC_ret ?_
    exact ⟨.inl rfl, fun a ha => ⟨_, results_rep1 rfl ha rfl, r11, rfl, h⟩⟩

/-- share.power -/
def F44 (p0 : Int) (p1 : Int) (w0 : World) (K : Int → World → Prop) : Prop :=
  lp (fun (next9 : (Int × Int × Int) → World → Prop) l9 w1 =>
    cnd (decide (0 < l9.2.1))
      (
      jn (fun (J11 : Int → World → Prop) =>
        cnd (decide ((andK .i64 l9.2.1 1) = 1))
          (
          J11 ((IntKind.i64.wrap (l9.2.2 * l9.1)).tmod 2147483647) w1
          )
          (
          J11 l9.2.2 w1
          )
      )
      fun l12 w2 =>
      next9 ((IntKind.i64.wrap (l9.1 * l9.1)).tmod 2147483647, shrK .i64 l9.2.1 1, l12) w2
      )
      (
      K l9.2.2 w1
      )
  ) (p0, p1, 1) w0
set_option maxRecDepth 100000 in
theorem D44 (p0 : Int) (p1 : Int) (w0 : World) (K : Int → World → Prop) (h : F44 p0 p1 w0 K) : callC Try.prog 44 #[(Value.int .i64 p0), (Value.int .i64 p1)] (fun (r : Int) => (Value.int .i64 r)) w0 K := by
  unfold F44 at h
  refine calls_of_wpC Try.func44 rfl 22 rfl (by simp) ?_
  intro ρ hρ
  have e0 : ρ 0 = (Value.int .i64 p0) := hρ 0
  have e1 : ρ 1 = (Value.int .i64 p1) := hρ 1
  clear hρ
  refine wpC_seq ?_
  refine wpC_region ?_
  refine wpR_val (v := (Value.int .i64 0)) (w' := w0) rfl rfl rfl (x_assign (v := (Value.int .i64 0)) rfl rfl) ?_
  refine wpR_nil ?_
  refine wpC_seq ?_
  refine wpC_cut (fun ρ => ρ 0 = (Value.int .i64 p0) ∧ ρ 1 = (Value.int .i64 p1) ∧ True) ⟨e0, e1, trivial⟩ ?_
  rintro ρ ⟨e0, e1, -⟩
  refine wpC_region ?_
  refine wpR_val (v := (Value.int .i64 1)) (w' := w0) rfl rfl rfl (x_assign (v := (Value.int .i64 1)) rfl rfl) ?_
  refine wpR_nil ?_
  refine wpC_seq ?_
  refine wpC_block ?_
  obtain ⟨I9, μ9, hI9, hr9⟩ := h
  refine wpC_loop (fun (x : Int × Int × Int) ρ => ρ 0 = (Value.int .i64 x.1) ∧ ρ 1 = (Value.int .i64 x.2.1) ∧ ρ 5 = (Value.int .i64 x.2.2) ∧ True) I9 μ9 (p0, p1, 1) ⟨e0, e1, rfl, trivial⟩ hI9 ?_
  rintro l9 ρ w1 ⟨e0, e1, e5, -⟩ h
  replace h := hr9 l9 w1 h
  clear hr9 hI9
  refine wpC_seq ?_
  refine wpC_seq ?_
  refine wpC_region ?_
  refine wpR_val (v := (Value.int .i64 l9.2.1)) (w' := w1) rfl rfl rfl (x_move (v := (Value.int .i64 l9.2.1)) rfl e1) ?_
  refine wpR_val (v := (Value.bool (decide (0 < l9.2.1)))) (w' := w1) rfl rfl rfl (x_gtr rfl rfl rfl) ?_
  refine wpR_nil ?_
  refine wpC_cond (b := decide (0 < l9.2.1)) rfl (fun hc10 => ?_) (fun hc10 => ?_)
  · replace h := h.1 hc10
    refine wpC_skip ?_
    refine wpC_seq ?_
    refine wpC_block ?_
    obtain ⟨J11, h, hk⟩ := h
    refine wpC_seqJ (fun (x : Int) ρ => ρ 5 = (Value.int .i64 x) ∧ ρ 0 = (Value.int .i64 l9.1) ∧ ρ 1 = (Value.int .i64 l9.2.1) ∧ True) J11 ?_ ?_
    · clear hk
      refine wpC_seq ?_
      refine wpC_cut (fun ρ => ρ 0 = (Value.int .i64 l9.1) ∧ ρ 1 = (Value.int .i64 l9.2.1) ∧ ρ 5 = (Value.int .i64 l9.2.2) ∧ True) ⟨e0, e1, e5, trivial⟩ ?_
      rintro ρ ⟨e0, e1, e5, -⟩
      refine wpC_region ?_
      refine wpR_val (v := (Value.int .i64 l9.2.1)) (w' := w1) rfl rfl rfl (x_move (v := (Value.int .i64 l9.2.1)) rfl e1) ?_
      refine wpR_val (v := (Value.int .i64 (andK .i64 l9.2.1 1))) (w' := w1) rfl rfl rfl (x_and rfl rfl rfl) ?_
      refine wpR_val (v := (Value.bool (decide ((andK .i64 l9.2.1 1) = 1)))) (w' := w1) rfl rfl rfl (x_eql rfl rfl rfl) ?_
      refine wpR_nil ?_
      refine wpC_cond (b := decide ((andK .i64 l9.2.1 1) = 1)) rfl (fun hc13 => ?_) (fun hc13 => ?_)
      · replace h := h.1 hc13
        refine wpC_cut (fun ρ => ρ 0 = (Value.int .i64 l9.1) ∧ ρ 1 = (Value.int .i64 l9.2.1) ∧ ρ 5 = (Value.int .i64 l9.2.2) ∧ True) ⟨e0, e1, e5, trivial⟩ ?_
        rintro ρ ⟨e0, e1, e5, -⟩
        refine wpC_region ?_
        refine wpR_val (v := (Value.int .i64 l9.2.2)) (w' := w1) rfl rfl rfl (x_move (v := (Value.int .i64 l9.2.2)) rfl e5) ?_
        refine wpR_val (v := (Value.int .i64 l9.1)) (w' := w1) rfl rfl rfl (x_move (v := (Value.int .i64 l9.1)) rfl e0) ?_
        refine wpR_val (v := (Value.int .i64 (IntKind.i64.wrap (l9.2.2 * l9.1)))) (w' := w1) rfl rfl rfl (x_mul rfl rfl rfl) ?_
        refine wpR_val (v := (Value.int .i64 ((IntKind.i64.wrap (l9.2.2 * l9.1)).tmod 2147483647))) (w' := w1) rfl rfl rfl (x_rem rfl rfl rfl (by decide)) ?_
        refine wpR_val (v := (Value.int .i64 ((IntKind.i64.wrap (l9.2.2 * l9.1)).tmod 2147483647))) (w' := w1) rfl rfl rfl (x_assign (v := (Value.int .i64 ((IntKind.i64.wrap (l9.2.2 * l9.1)).tmod 2147483647))) rfl rfl) ?_
        refine wpR_nil ?_
        exact ⟨(IntKind.i64.wrap (l9.2.2 * l9.1)).tmod 2147483647, ⟨rfl, e0, e1, trivial⟩, h⟩
      · replace h := h.2 hc13
        refine wpC_skip ?_
        exact ⟨l9.2.2, ⟨e5, e0, e1, trivial⟩, h⟩
    clear h
    rintro l12 ρ w2 ⟨e5, e0, e1, -⟩ h
    replace h := hk l12 w2 h
    clear hk
    refine wpC_region ?_
    refine wpR_val (v := (Value.int .i64 l9.1)) (w' := w2) rfl rfl rfl (x_move (v := (Value.int .i64 l9.1)) rfl e0) ?_
    refine wpR_val (v := (Value.int .i64 l9.1)) (w' := w2) rfl rfl rfl (x_move (v := (Value.int .i64 l9.1)) rfl e0) ?_
    refine wpR_val (v := (Value.int .i64 (IntKind.i64.wrap (l9.1 * l9.1)))) (w' := w2) rfl rfl rfl (x_mul rfl rfl rfl) ?_
    refine wpR_val (v := (Value.int .i64 ((IntKind.i64.wrap (l9.1 * l9.1)).tmod 2147483647))) (w' := w2) rfl rfl rfl (x_rem rfl rfl rfl (by decide)) ?_
    refine wpR_val (v := (Value.int .i64 ((IntKind.i64.wrap (l9.1 * l9.1)).tmod 2147483647))) (w' := w2) rfl rfl rfl (x_assign (v := (Value.int .i64 ((IntKind.i64.wrap (l9.1 * l9.1)).tmod 2147483647))) rfl rfl) ?_
    refine wpR_nil ?_
    refine wpC_cut (fun ρ => ρ 0 = (Value.int .i64 ((IntKind.i64.wrap (l9.1 * l9.1)).tmod 2147483647)) ∧ ρ 1 = (Value.int .i64 l9.2.1) ∧ ρ 5 = (Value.int .i64 l12) ∧ True) ⟨rfl, e1, e5, trivial⟩ ?_
    rintro ρ ⟨e0, e1, e5, -⟩
    refine wpC_region ?_
    refine wpR_val (v := (Value.int .i64 l9.2.1)) (w' := w2) rfl rfl rfl (x_move (v := (Value.int .i64 l9.2.1)) rfl e1) ?_
    refine wpR_val (v := (Value.int .i64 (shrK .i64 l9.2.1 1))) (w' := w2) rfl rfl rfl (x_shr rfl rfl rfl (by decide)) ?_
    refine wpR_val (v := (Value.int .i64 (shrK .i64 l9.2.1 1))) (w' := w2) rfl rfl rfl (x_assign (v := (Value.int .i64 (shrK .i64 l9.2.1 1))) rfl rfl) ?_
    refine wpR_nil ?_
    exact ⟨((IntKind.i64.wrap (l9.1 * l9.1)).tmod 2147483647, shrK .i64 l9.2.1 1, l12), ⟨e0, rfl, e5, trivial⟩, h⟩
  · replace h := h.2 hc10
    refine wpC_exit ?_
    refine wpC_seq ?_
    refine wpC_cut (fun ρ => ρ 5 = (Value.int .i64 l9.2.2) ∧ True) ⟨e5, trivial⟩ ?_
    rintro ρ ⟨e5, -⟩
    refine wpC_region ?_
    refine wpR_val (v := (Value.int .i64 l9.2.2)) (w' := w1) rfl rfl rfl (x_move (v := (Value.int .i64 l9.2.2)) rfl e5) ?_
    refine wpR_val (v := (Value.int .i64 l9.2.2)) (w' := w1) rfl rfl rfl (x_assign (v := (Value.int .i64 l9.2.2)) rfl rfl) ?_
    refine wpR_nil ?_
    refine wpC_ret ?_
    exact ⟨.inl rfl, fun a ha => ⟨_, results_rep1 rfl ha rfl, l9.2.2, rfl, h⟩⟩

/-- linguaref06.poly -/
def F45 (p0 : Sl) (w0 : World) (K : Sl → World → Prop) : Prop :=
  rn Try.prog (Instr.makeSlice 35 (Value.int .i64 (p0.len : Int)) (Value.int .i64 (p0.len : Int))) (fun (r : Sl) => (Sl.v r)) w0 fun r9 w1 =>
  lp (fun (next10 : Int → World → Prop) l10 w2 =>
    cnd (decide (l10 < (p0.len : Int)))
      (
      ix p0 l10 2 fun p12 =>
      ld (Value.int .i64) (p12.add 1) w2 fun x13 =>
      ix r9 l10 1 fun p14 =>
      st p14 [(Value.int .i64 x13)] w2 fun w3 =>
      next10 (IntKind.i64.wrap (l10 + 1)) w3
      )
      (
      lp (fun (next16 : Int → World → Prop) l16 w4 =>
        cnd (decide (l16 < (p0.len : Int)))
          (
          lp (fun (next18 : Int → World → Prop) l18 w5 =>
            cnd (decide (l16 ≤ l18))
              (
              jn (fun (J21 : Unit → World → Prop) => tk w5 fun w6 =>
                ix r9 l18 1 fun p22 =>
                ld (Value.int .i64) p22 w6 fun x23 =>
                ix r9 (IntKind.i64.wrap (l18 - 1)) 1 fun p24 =>
                ld (Value.int .i64) p24 w6 fun x25 =>
                ix p0 l18 2 fun p26 =>
                ld (Value.int .i64) (p26.add 0) w6 fun x27 =>
                ix p0 (IntKind.i64.wrap (l18 - l16)) 2 fun p28 =>
                ld (Value.int .i64) (p28.add 0) w6 fun x29 =>
                callC Try.prog 47 #[(Value.int .i64 (IntKind.i64.wrap (x23 - x25)))] (fun (r : Int) => (Value.int .i64 r)) w6 fun r30 w7 =>
                (w7.cell? (p28.add 0) = some (Value.int .i64 x29)) ∧
                (w7.cell? (p26.add 0) = some (Value.int .i64 x27)) ∧
                (w7.cell? p24 = some (Value.int .i64 x25)) ∧
                (w7.cell? p22 = some (Value.int .i64 x23)) ∧
                callC Try.prog 47 #[(Value.int .i64 (IntKind.i64.wrap (x27 - x29)))] (fun (r : Int) => (Value.int .i64 r)) w7 fun r31 w8 =>
                (w8.cell? (p28.add 0) = some (Value.int .i64 x29)) ∧
                (w8.cell? (p26.add 0) = some (Value.int .i64 x27)) ∧
                (w8.cell? p24 = some (Value.int .i64 x25)) ∧
                (w8.cell? p22 = some (Value.int .i64 x23)) ∧
                callC Try.prog 48 #[(Value.int .i64 r31)] (fun (r : Int) => (Value.int .i64 r)) w8 fun r32 w9 =>
                (w9.cell? (p28.add 0) = some (Value.int .i64 x29)) ∧
                (w9.cell? (p26.add 0) = some (Value.int .i64 x27)) ∧
                (w9.cell? p24 = some (Value.int .i64 x25)) ∧
                (w9.cell? p22 = some (Value.int .i64 x23)) ∧
                ix r9 l18 1 fun p33 =>
                st p33 [(Value.int .i64 ((IntKind.i64.wrap (r30 * r32)).tmod 2147483647))] w9 fun w10 =>
                J21 () w10
              )
              fun _l35 w11 =>
              next18 (IntKind.i64.wrap (l18 - 1)) w11
              )
              (
              next16 (IntKind.i64.wrap (l16 + 1)) w5
              )
          ) (IntKind.i64.wrap ((p0.len : Int) - 1)) w4
          )
          (
          K r9 w4
          )
      ) 1 w2
      )
  ) 0 w1
set_option maxRecDepth 100000 in
theorem D45 (p0 : Sl) (w0 : World) (K : Sl → World → Prop) (h : F45 p0 w0 K) : callC Try.prog 45 #[(Sl.v p0)] (fun (r : Sl) => (Sl.v r)) w0 K := by
  unfold F45 at h
  refine calls_of_wpC Try.func45 rfl 70 rfl (by simp) ?_
  intro ρ hρ
  have e0 : ρ 0 = (Sl.v p0) := hρ 0
  clear hρ
  refine wpC_seq ?_
  refine wpC_region ?_
  refine wpR_val (v := (Sl.v Sl.nil)) (w' := w0) rfl rfl rfl (x_assign (v := (Sl.v Sl.nil)) rfl rfl) ?_
  refine wpR_nil ?_
  refine wpC_seq ?_
  refine wpC_cut (fun ρ => ρ 0 = (Sl.v p0) ∧ True) ⟨e0, trivial⟩ ?_
  rintro ρ ⟨e0, -⟩
  refine wpC_region ?_
  refine wpR_val (v := (Sl.v p0)) (w' := w0) rfl rfl rfl (x_move (v := (Sl.v p0)) rfl e0) ?_
  refine wpR_val (v := (Value.int .i64 (p0.len : Int))) (w' := w0) rfl rfl rfl (x_lenS (s := p0) rfl rfl isSliceT_25) ?_
  obtain ⟨r9, w1, q9, h⟩ := h
  refine wpR_val (v := (Sl.v r9)) (w' := w1) rfl rfl rfl (x_makeSlice rfl rfl rfl q9) ?_
  refine wpR_val (v := (Sl.v r9)) (w' := w1) rfl rfl rfl (x_assign (v := (Sl.v r9)) rfl rfl) ?_
  refine wpR_nil ?_
  refine wpC_seq ?_
  refine wpC_seq ?_
  refine wpC_cut (fun ρ => ρ 0 = (Sl.v p0) ∧ ρ 3 = (Sl.v r9) ∧ True) ⟨e0, rfl, trivial⟩ ?_
  rintro ρ ⟨e0, e3, -⟩
  refine wpC_region ?_
  refine wpR_val (v := (Value.int .i64 0)) (w' := w1) rfl rfl rfl (x_assign (v := (Value.int .i64 0)) rfl rfl) ?_
  refine wpR_nil ?_
  refine wpC_block ?_
  obtain ⟨I10, μ10, hI10, hr10⟩ := h
  refine wpC_loop (fun (x : Int) ρ => ρ 4 = (Value.int .i64 x) ∧ ρ 0 = (Sl.v p0) ∧ ρ 3 = (Sl.v r9) ∧ True) I10 μ10 0 ⟨rfl, e0, e3, trivial⟩ hI10 ?_
  rintro l10 ρ w2 ⟨e4, e0, e3, -⟩ h
  replace h := hr10 l10 w2 h
  clear hr10 hI10
  refine wpC_seq ?_
  refine wpC_seq ?_
  refine wpC_region ?_
  refine wpR_val (v := (Value.int .i64 l10)) (w' := w2) rfl rfl rfl (x_move (v := (Value.int .i64 l10)) rfl e4) ?_
  refine wpR_val (v := (Sl.v p0)) (w' := w2) rfl rfl rfl (x_move (v := (Sl.v p0)) rfl e0) ?_
  refine wpR_val (v := (Value.int .i64 (p0.len : Int))) (w' := w2) rfl rfl rfl (x_lenS (s := p0) rfl rfl isSliceT_25) ?_
  refine wpR_val (v := (Value.bool (decide (l10 < (p0.len : Int))))) (w' := w2) rfl rfl rfl (x_lss rfl rfl rfl) ?_
  refine wpR_nil ?_
  refine wpC_cond (b := decide (l10 < (p0.len : Int))) rfl (fun hc11 => ?_) (fun hc11 => ?_)
  · replace h := h.1 hc11
    refine wpC_skip ?_
    refine wpC_seq ?_
    refine wpC_block ?_
    refine wpC_cut (fun ρ => ρ 0 = (Sl.v p0) ∧ ρ 3 = (Sl.v r9) ∧ ρ 4 = (Value.int .i64 l10) ∧ True) ⟨e0, e3, e4, trivial⟩ ?_
    rintro ρ ⟨e0, e3, e4, -⟩
    refine wpC_region ?_
    refine wpR_val (v := (Sl.v r9)) (w' := w2) rfl rfl rfl (x_move (v := (Sl.v r9)) rfl e3) ?_
    refine wpR_val (v := (Value.int .i64 l10)) (w' := w2) rfl rfl rfl (x_move (v := (Value.int .i64 l10)) rfl e4) ?_
    refine wpR_val (v := (Sl.v p0)) (w' := w2) rfl rfl rfl (x_move (v := (Sl.v p0)) rfl e0) ?_
    refine wpR_val (v := (Value.int .i64 l10)) (w' := w2) rfl rfl rfl (x_move (v := (Value.int .i64 l10)) rfl e4) ?_
    obtain ⟨q12, z12, r12, h⟩ := h
    generalize hp12 : z12.add ((l10 : Int).toNat * 2) = p12 at h
    refine wpR_val (v := (Value.pointer (some p12))) (w' := w2) rfl rfl rfl ((x_indexAddr (s := p0) rfl rfl rfl ES_25 q12 r12).trans (by rw [hp12])) ?_
    refine wpR_val (v := (Value.pointer (some (p12.add 1)))) (w' := w2) rfl rfl rfl (x_fieldAddr rfl rfl FA_56_1) ?_
    obtain ⟨x13, q13, h⟩ := h
    refine wpR_val (v := (Value.int .i64 x13)) (w' := w2) rfl rfl rfl (x_load1 rfl rfl SH_3 q13) ?_
    obtain ⟨q14, z14, r14, h⟩ := h
    generalize hp14 : z14.add ((l10 : Int).toNat * 1) = p14 at h
    refine wpR_val (v := (Value.pointer (some p14))) (w' := w2) rfl rfl rfl ((x_indexAddr (s := r9) rfl rfl rfl ES_35 q14 r14).trans (by rw [hp14])) ?_
    obtain ⟨q15, h⟩ := h
    obtain ⟨w3, hw15⟩ : ∃ u, u = setAll w2 p14 [(Value.int .i64 x13)] 0 := ⟨_, rfl⟩
    replace h := h w3 hw15
    refine wpR_skp (w' := w3) rfl rfl ((x_store (v := (Value.int .i64 x13)) rfl rfl rfl SZ_3 (ones (by rfl)) q15).trans (by rw [hw15]; rfl)) ?_
    refine wpR_nil ?_
    refine wpC_cut (fun ρ => ρ 0 = (Sl.v p0) ∧ ρ 3 = (Sl.v r9) ∧ ρ 4 = (Value.int .i64 l10) ∧ True) ⟨e0, e3, e4, trivial⟩ ?_
    rintro ρ ⟨e0, e3, e4, -⟩
    refine wpC_region ?_
    refine wpR_val (v := (Value.int .i64 l10)) (w' := w3) rfl rfl rfl (x_move (v := (Value.int .i64 l10)) rfl e4) ?_
    refine wpR_val (v := (Value.int .i64 (IntKind.i64.wrap (l10 + 1)))) (w' := w3) rfl rfl rfl (x_add rfl rfl rfl) ?_
    refine wpR_val (v := (Value.int .i64 (IntKind.i64.wrap (l10 + 1)))) (w' := w3) rfl rfl rfl (x_assign (v := (Value.int .i64 (IntKind.i64.wrap (l10 + 1)))) rfl rfl) ?_
    refine wpR_nil ?_
    exact ⟨IntKind.i64.wrap (l10 + 1), ⟨rfl, e0, e3, trivial⟩, h⟩
  · replace h := h.2 hc11
    refine wpC_exit ?_
    refine wpC_seq ?_
    refine wpC_seq ?_
    refine wpC_cut (fun ρ => ρ 0 = (Sl.v p0) ∧ ρ 3 = (Sl.v r9) ∧ True) ⟨e0, e3, trivial⟩ ?_
    rintro ρ ⟨e0, e3, -⟩
    refine wpC_region ?_
    refine wpR_val (v := (Value.int .i64 1)) (w' := w2) rfl rfl rfl (x_assign (v := (Value.int .i64 1)) rfl rfl) ?_
    refine wpR_nil ?_
    refine wpC_block ?_
    obtain ⟨I16, μ16, hI16, hr16⟩ := h
    refine wpC_loop (fun (x : Int) ρ => ρ 5 = (Value.int .i64 x) ∧ ρ 0 = (Sl.v p0) ∧ ρ 3 = (Sl.v r9) ∧ True) I16 μ16 1 ⟨rfl, e0, e3, trivial⟩ hI16 ?_
    rintro l16 ρ w4 ⟨e5, e0, e3, -⟩ h
    replace h := hr16 l16 w4 h
    clear hr16 hI16
    refine wpC_seq ?_
    refine wpC_seq ?_
    refine wpC_region ?_
    refine wpR_val (v := (Value.int .i64 l16)) (w' := w4) rfl rfl rfl (x_move (v := (Value.int .i64 l16)) rfl e5) ?_
    refine wpR_val (v := (Sl.v p0)) (w' := w4) rfl rfl rfl (x_move (v := (Sl.v p0)) rfl e0) ?_
    refine wpR_val (v := (Value.int .i64 (p0.len : Int))) (w' := w4) rfl rfl rfl (x_lenS (s := p0) rfl rfl isSliceT_25) ?_
    refine wpR_val (v := (Value.bool (decide (l16 < (p0.len : Int))))) (w' := w4) rfl rfl rfl (x_lss rfl rfl rfl) ?_
    refine wpR_nil ?_
    refine wpC_cond (b := decide (l16 < (p0.len : Int))) rfl (fun hc17 => ?_) (fun hc17 => ?_)
    · replace h := h.1 hc17
      refine wpC_skip ?_
      refine wpC_seq ?_
      refine wpC_block ?_
      refine wpC_seq ?_
      refine wpC_cut (fun ρ => ρ 0 = (Sl.v p0) ∧ ρ 3 = (Sl.v r9) ∧ ρ 5 = (Value.int .i64 l16) ∧ True) ⟨e0, e3, e5, trivial⟩ ?_
      rintro ρ ⟨e0, e3, e5, -⟩
      refine wpC_region ?_
      refine wpR_val (v := (Sl.v p0)) (w' := w4) rfl rfl rfl (x_move (v := (Sl.v p0)) rfl e0) ?_
      refine wpR_val (v := (Value.int .i64 (p0.len : Int))) (w' := w4) rfl rfl rfl (x_lenS (s := p0) rfl rfl isSliceT_25) ?_
      refine wpR_val (v := (Value.int .i64 (IntKind.i64.wrap ((p0.len : Int) - 1)))) (w' := w4) rfl rfl rfl (x_sub rfl rfl rfl) ?_
      refine wpR_val (v := (Value.int .i64 (IntKind.i64.wrap ((p0.len : Int) - 1)))) (w' := w4) rfl rfl rfl (x_assign (v := (Value.int .i64 (IntKind.i64.wrap ((p0.len : Int) - 1)))) rfl rfl) ?_
      refine wpR_nil ?_
      refine wpC_block ?_
      obtain ⟨I18, μ18, hI18, hr18⟩ := h
      refine wpC_loop (fun (x : Int) ρ => ρ 6 = (Value.int .i64 x) ∧ ρ 0 = (Sl.v p0) ∧ ρ 3 = (Sl.v r9) ∧ ρ 5 = (Value.int .i64 l16) ∧ True) I18 μ18 (IntKind.i64.wrap ((p0.len : Int) - 1)) ⟨rfl, e0, e3, e5, trivial⟩ hI18 ?_
      rintro l18 ρ w5 ⟨e6, e0, e3, e5, -⟩ h
      replace h := hr18 l18 w5 h
      clear hr18 hI18
      refine wpC_seq ?_
      refine wpC_seq ?_
      refine wpC_region ?_
      refine wpR_val (v := (Value.int .i64 l18)) (w' := w5) rfl rfl rfl (x_move (v := (Value.int .i64 l18)) rfl e6) ?_
      refine wpR_val (v := (Value.int .i64 l16)) (w' := w5) rfl rfl rfl (x_move (v := (Value.int .i64 l16)) rfl e5) ?_
      refine wpR_val (v := (Value.bool (decide (l16 ≤ l18)))) (w' := w5) rfl rfl rfl (x_geq rfl rfl rfl) ?_
      refine wpR_nil ?_
      refine wpC_cond (b := decide (l16 ≤ l18)) rfl (fun hc19 => ?_) (fun hc19 => ?_)
      · replace h := h.1 hc19
        refine wpC_skip ?_
        refine wpC_seq ?_
        refine wpC_block ?_
        refine wpC_cut (fun ρ => ρ 0 = (Sl.v p0) ∧ ρ 3 = (Sl.v r9) ∧ ρ 5 = (Value.int .i64 l16) ∧ ρ 6 = (Value.int .i64 l18) ∧ True) ⟨e0, e3, e5, e6, trivial⟩ ?_
        rintro ρ ⟨e0, e3, e5, e6, -⟩
        obtain ⟨J21, h, hk⟩ := h
        refine wpC_drawJ (by kernel_rfl) (fun (x : Unit) ρ => ρ 0 = (Sl.v p0) ∧ ρ 3 = (Sl.v r9) ∧ ρ 5 = (Value.int .i64 l16) ∧ ρ 6 = (Value.int .i64 l18) ∧ True) J21 ?_ ?_
        · clear hk
          unfold tk at h
          generalize w5.drew = w6 at h ⊢
          refine wpD_take (v := (Sl.v r9)) 0 (fun _ => True) rfl (by kernel_rfl) (by kernel_rfl) (by kernel_rfl) rfl rfl rfl trivial (fun w _ => (x_move (v := (Sl.v r9)) rfl e3)) ?_
          refine wpD_take (v := (Value.int .i64 l18)) 1 (fun _ => True) rfl (by kernel_rfl) (by kernel_rfl) (by kernel_rfl) rfl rfl rfl trivial (fun w _ => (x_move (v := (Value.int .i64 l18)) rfl e6)) ?_
          refine wpD_take (v := (Sl.v r9)) 2 (fun _ => True) rfl (by kernel_rfl) (by kernel_rfl) (by kernel_rfl) rfl rfl rfl trivial (fun w _ => (x_move (v := (Sl.v r9)) rfl e3)) ?_
          refine wpD_take (v := (Value.int .i64 l18)) 3 (fun _ => True) rfl (by kernel_rfl) (by kernel_rfl) (by kernel_rfl) rfl rfl rfl trivial (fun w _ => (x_move (v := (Value.int .i64 l18)) rfl e6)) ?_
          obtain ⟨q22, z22, r22, h⟩ := h
          generalize hp22 : z22.add ((l18 : Int).toNat * 1) = p22 at h
          refine wpD_take (v := (Value.pointer (some p22))) 4 (fun _ => True) rfl (by kernel_rfl) (by kernel_rfl) (by kernel_rfl) rfl rfl rfl trivial (fun w _ => ((x_indexAddr (s := r9) rfl rfl rfl ES_35 q22 r22).trans (by rw [hp22]))) ?_
          obtain ⟨x23, q23, h⟩ := h
          refine wpD_take (v := (Value.int .i64 x23)) 5 (fun w => w.cell? p22 = some (Value.int .i64 x23)) rfl (by kernel_rfl) (by kernel_rfl) (by kernel_rfl) rfl rfl rfl q23 (fun w q23 => (x_load1 rfl rfl SH_3 q23)) ?_
          refine wpD_take (v := (Sl.v r9)) 6 (fun _ => True) rfl (by kernel_rfl) (by kernel_rfl) (by kernel_rfl) rfl rfl rfl trivial (fun w _ => (x_move (v := (Sl.v r9)) rfl e3)) ?_
          refine wpD_take (v := (Value.int .i64 l18)) 7 (fun _ => True) rfl (by kernel_rfl) (by kernel_rfl) (by kernel_rfl) rfl rfl rfl trivial (fun w _ => (x_move (v := (Value.int .i64 l18)) rfl e6)) ?_
          refine wpD_take (v := (Value.int .i64 (IntKind.i64.wrap (l18 - 1)))) 8 (fun _ => True) rfl (by kernel_rfl) (by kernel_rfl) (by kernel_rfl) rfl rfl rfl trivial (fun w _ => (x_sub rfl rfl rfl)) ?_
          obtain ⟨q24, z24, r24, h⟩ := h
          generalize hp24 : z24.add ((IntKind.i64.wrap (l18 - 1) : Int).toNat * 1) = p24 at h
          refine wpD_take (v := (Value.pointer (some p24))) 9 (fun _ => True) rfl (by kernel_rfl) (by kernel_rfl) (by kernel_rfl) rfl rfl rfl trivial (fun w _ => ((x_indexAddr (s := r9) rfl rfl rfl ES_35 q24 r24).trans (by rw [hp24]))) ?_
          obtain ⟨x25, q25, h⟩ := h
          refine wpD_take (v := (Value.int .i64 x25)) 10 (fun w => w.cell? p24 = some (Value.int .i64 x25)) rfl (by kernel_rfl) (by kernel_rfl) (by kernel_rfl) rfl rfl rfl q25 (fun w q25 => (x_load1 rfl rfl SH_3 q25)) ?_
          refine wpD_take (v := (Value.int .i64 (IntKind.i64.wrap (x23 - x25)))) 11 (fun _ => True) rfl (by kernel_rfl) (by kernel_rfl) (by kernel_rfl) rfl rfl rfl trivial (fun w _ => (x_sub rfl rfl rfl)) ?_
          refine wpD_take (v := (Sl.v p0)) 13 (fun _ => True) rfl (by kernel_rfl) (by kernel_rfl) (by kernel_rfl) rfl rfl rfl trivial (fun w _ => (x_move (v := (Sl.v p0)) rfl e0)) ?_
          refine wpD_take (v := (Value.int .i64 l18)) 14 (fun _ => True) rfl (by kernel_rfl) (by kernel_rfl) (by kernel_rfl) rfl rfl rfl trivial (fun w _ => (x_move (v := (Value.int .i64 l18)) rfl e6)) ?_
          obtain ⟨q26, z26, r26, h⟩ := h
          generalize hp26 : z26.add ((l18 : Int).toNat * 2) = p26 at h
          refine wpD_take (v := (Value.pointer (some p26))) 15 (fun _ => True) rfl (by kernel_rfl) (by kernel_rfl) (by kernel_rfl) rfl rfl rfl trivial (fun w _ => ((x_indexAddr (s := p0) rfl rfl rfl ES_25 q26 r26).trans (by rw [hp26]))) ?_
          refine wpD_take (v := (Value.pointer (some (p26.add 0)))) 16 (fun _ => True) rfl (by kernel_rfl) (by kernel_rfl) (by kernel_rfl) rfl rfl rfl trivial (fun w _ => (x_fieldAddr rfl rfl FA_56_0)) ?_
          obtain ⟨x27, q27, h⟩ := h
          refine wpD_take (v := (Value.int .i64 x27)) 17 (fun w => w.cell? (p26.add 0) = some (Value.int .i64 x27)) rfl (by kernel_rfl) (by kernel_rfl) (by kernel_rfl) rfl rfl rfl q27 (fun w q27 => (x_load1 rfl rfl SH_3 q27)) ?_
          refine wpD_take (v := (Sl.v p0)) 18 (fun _ => True) rfl (by kernel_rfl) (by kernel_rfl) (by kernel_rfl) rfl rfl rfl trivial (fun w _ => (x_move (v := (Sl.v p0)) rfl e0)) ?_
          refine wpD_take (v := (Value.int .i64 l18)) 19 (fun _ => True) rfl (by kernel_rfl) (by kernel_rfl) (by kernel_rfl) rfl rfl rfl trivial (fun w _ => (x_move (v := (Value.int .i64 l18)) rfl e6)) ?_
          refine wpD_take (v := (Value.int .i64 l16)) 20 (fun _ => True) rfl (by kernel_rfl) (by kernel_rfl) (by kernel_rfl) rfl rfl rfl trivial (fun w _ => (x_move (v := (Value.int .i64 l16)) rfl e5)) ?_
          refine wpD_take (v := (Value.int .i64 (IntKind.i64.wrap (l18 - l16)))) 21 (fun _ => True) rfl (by kernel_rfl) (by kernel_rfl) (by kernel_rfl) rfl rfl rfl trivial (fun w _ => (x_sub rfl rfl rfl)) ?_
          obtain ⟨q28, z28, r28, h⟩ := h
          generalize hp28 : z28.add ((IntKind.i64.wrap (l18 - l16) : Int).toNat * 2) = p28 at h
          refine wpD_take (v := (Value.pointer (some p28))) 22 (fun _ => True) rfl (by kernel_rfl) (by kernel_rfl) (by kernel_rfl) rfl rfl rfl trivial (fun w _ => ((x_indexAddr (s := p0) rfl rfl rfl ES_25 q28 r28).trans (by rw [hp28]))) ?_
          refine wpD_take (v := (Value.pointer (some (p28.add 0)))) 23 (fun _ => True) rfl (by kernel_rfl) (by kernel_rfl) (by kernel_rfl) rfl rfl rfl trivial (fun w _ => (x_fieldAddr rfl rfl FA_56_0)) ?_
          obtain ⟨x29, q29, h⟩ := h
          refine wpD_take (v := (Value.int .i64 x29)) 24 (fun w => w.cell? (p28.add 0) = some (Value.int .i64 x29)) rfl (by kernel_rfl) (by kernel_rfl) (by kernel_rfl) rfl rfl rfl q29 (fun w q29 => (x_load1 rfl rfl SH_3 q29)) ?_
          refine wpD_take (v := (Value.int .i64 (IntKind.i64.wrap (x27 - x29)))) 25 (fun _ => True) rfl (by kernel_rfl) (by kernel_rfl) (by kernel_rfl) rfl rfl rfl trivial (fun w _ => (x_sub rfl rfl rfl)) ?_
          refine wpD_all (rs := [12]) (by kernel_rfl) (by simp) (allD_cons ?_ allD_nil)
          refine stepD_enterL (L' := [(25, fun _ => True), (24, fun w => w.cell? (p28.add 0) = some (Value.int .i64 x29)), (23, fun _ => True), (22, fun _ => True), (21, fun _ => True), (20, fun _ => True), (19, fun _ => True), (18, fun _ => True), (17, fun w => w.cell? (p26.add 0) = some (Value.int .i64 x27)), (16, fun _ => True), (15, fun _ => True), (14, fun _ => True), (13, fun _ => True), (10, fun w => w.cell? p24 = some (Value.int .i64 x25)), (9, fun _ => True), (8, fun _ => True), (7, fun _ => True), (6, fun _ => True), (5, fun w => w.cell? p22 = some (Value.int .i64 x23)), (4, fun _ => True), (3, fun _ => True), (2, fun _ => True), (1, fun _ => True), (0, fun _ => True)]) rfl rfl rfl rfl (x_call (vs := [(Value.int .i64 (IntKind.i64.wrap (x23 - x25)))]) rfl rfl (mapl_cons rfl mapl_nil) Try.func47 NN_47 NB_47) (by kernel_rfl) (Calls.mono h ?_)
          rintro _ w7 ⟨r30, rfl, h⟩
          obtain ⟨o24, h⟩ := h
          obtain ⟨o17, h⟩ := h
          obtain ⟨o10, h⟩ := h
          obtain ⟨o5, h⟩ := h
          refine ⟨_, rfl, (held_cons trivial (held_cons o24 (held_cons trivial (held_cons trivial (held_cons trivial (held_cons trivial (held_cons trivial (held_cons trivial (held_cons o17 (held_cons trivial (held_cons trivial (held_cons trivial (held_cons trivial (held_cons o10 (held_cons trivial (held_cons trivial (held_cons trivial (held_cons trivial (held_cons o5 (held_cons trivial (held_cons trivial (held_cons trivial (held_cons trivial (held_cons trivial held_nil)))))))))))))))))))))))), ?_⟩
          refine wpD_all (rs := [26]) (by kernel_rfl) (by simp) (allD_cons ?_ allD_nil)
          refine stepD_enterL (L' := [(24, fun w => w.cell? (p28.add 0) = some (Value.int .i64 x29)), (23, fun _ => True), (22, fun _ => True), (21, fun _ => True), (20, fun _ => True), (19, fun _ => True), (18, fun _ => True), (17, fun w => w.cell? (p26.add 0) = some (Value.int .i64 x27)), (16, fun _ => True), (15, fun _ => True), (14, fun _ => True), (13, fun _ => True), (10, fun w => w.cell? p24 = some (Value.int .i64 x25)), (9, fun _ => True), (8, fun _ => True), (7, fun _ => True), (6, fun _ => True), (5, fun w => w.cell? p22 = some (Value.int .i64 x23)), (4, fun _ => True), (3, fun _ => True), (2, fun _ => True), (1, fun _ => True), (0, fun _ => True)]) rfl rfl rfl rfl (x_call (vs := [(Value.int .i64 (IntKind.i64.wrap (x27 - x29)))]) rfl rfl (mapl_cons rfl mapl_nil) Try.func47 NN_47 NB_47) (by kernel_rfl) (Calls.mono h ?_)
          rintro _ w8 ⟨r31, rfl, h⟩
          obtain ⟨o24, h⟩ := h
          obtain ⟨o17, h⟩ := h
          obtain ⟨o10, h⟩ := h
          obtain ⟨o5, h⟩ := h
          refine ⟨_, rfl, (held_cons o24 (held_cons trivial (held_cons trivial (held_cons trivial (held_cons trivial (held_cons trivial (held_cons trivial (held_cons o17 (held_cons trivial (held_cons trivial (held_cons trivial (held_cons trivial (held_cons o10 (held_cons trivial (held_cons trivial (held_cons trivial (held_cons trivial (held_cons o5 (held_cons trivial (held_cons trivial (held_cons trivial (held_cons trivial (held_cons trivial held_nil))))))))))))))))))))))), ?_⟩
          refine wpD_all (rs := [27]) (by kernel_rfl) (by simp) (allD_cons ?_ allD_nil)
          refine stepD_enterL (L' := [(24, fun w => w.cell? (p28.add 0) = some (Value.int .i64 x29)), (23, fun _ => True), (22, fun _ => True), (21, fun _ => True), (20, fun _ => True), (19, fun _ => True), (18, fun _ => True), (17, fun w => w.cell? (p26.add 0) = some (Value.int .i64 x27)), (16, fun _ => True), (15, fun _ => True), (14, fun _ => True), (13, fun _ => True), (10, fun w => w.cell? p24 = some (Value.int .i64 x25)), (9, fun _ => True), (8, fun _ => True), (7, fun _ => True), (6, fun _ => True), (5, fun w => w.cell? p22 = some (Value.int .i64 x23)), (4, fun _ => True), (3, fun _ => True), (2, fun _ => True), (1, fun _ => True), (0, fun _ => True)]) rfl rfl rfl rfl (x_call (vs := [(Value.int .i64 r31)]) rfl rfl (mapl_cons rfl mapl_nil) Try.func48 NN_48 NB_48) (by kernel_rfl) (Calls.mono h ?_)
          rintro _ w9 ⟨r32, rfl, h⟩
          obtain ⟨o24, h⟩ := h
          obtain ⟨o17, h⟩ := h
          obtain ⟨o10, h⟩ := h
          obtain ⟨o5, h⟩ := h
          refine ⟨_, rfl, (held_cons o24 (held_cons trivial (held_cons trivial (held_cons trivial (held_cons trivial (held_cons trivial (held_cons trivial (held_cons o17 (held_cons trivial (held_cons trivial (held_cons trivial (held_cons trivial (held_cons o10 (held_cons trivial (held_cons trivial (held_cons trivial (held_cons trivial (held_cons o5 (held_cons trivial (held_cons trivial (held_cons trivial (held_cons trivial (held_cons trivial held_nil))))))))))))))))))))))), ?_⟩
          refine wpD_take (v := (Value.int .i64 (IntKind.i64.wrap (r30 * r32)))) 28 (fun _ => True) rfl (by kernel_rfl) (by kernel_rfl) (by kernel_rfl) rfl rfl rfl trivial (fun w _ => (x_mul rfl rfl rfl)) ?_
          refine wpD_take (v := (Value.int .i64 ((IntKind.i64.wrap (r30 * r32)).tmod 2147483647))) 29 (fun _ => True) rfl (by kernel_rfl) (by kernel_rfl) (by kernel_rfl) rfl rfl rfl trivial (fun w _ => (x_rem rfl rfl rfl (by decide))) ?_
          obtain ⟨q33, z33, r33, h⟩ := h
          generalize hp33 : z33.add ((l18 : Int).toNat * 1) = p33 at h
          refine wpD_take (v := (Value.pointer (some p33))) 30 (fun _ => True) rfl (by kernel_rfl) (by kernel_rfl) (by kernel_rfl) rfl rfl rfl trivial (fun w _ => ((x_indexAddr (s := r9) rfl rfl rfl ES_35 q33 r33).trans (by rw [hp33]))) ?_
          refine wpD_all (rs := [31]) (by kernel_rfl) (by simp) (allD_cons ?_ allD_nil)
          obtain ⟨q34, h⟩ := h
          obtain ⟨w10, hw34⟩ : ∃ u, u = setAll w9 p33 [(Value.int .i64 ((IntKind.i64.wrap (r30 * r32)).tmod 2147483647))] 0 := ⟨_, rfl⟩
          replace h := h w10 hw34
          refine stepD_skpL (L' := []) (w' := w10) rfl rfl rfl ((x_store (v := (Value.int .i64 ((IntKind.i64.wrap (r30 * r32)).tmod 2147483647))) rfl rfl rfl SZ_3 (ones (by rfl)) q34).trans (by rw [hw34]; rfl)) (by kernel_rfl) held_nil ?_
          exact wpD_done (by kernel_rfl) ⟨(), ⟨e0, e3, e5, e6, trivial⟩, h⟩
        clear h
        rintro l35 ρ w11 ⟨e0, e3, e5, e6, -⟩ h
        replace h := hk l35 w11 h
        clear hk
        refine wpC_region ?_
        refine wpR_val (v := (Value.int .i64 l18)) (w' := w11) rfl rfl rfl (x_move (v := (Value.int .i64 l18)) rfl e6) ?_
        refine wpR_val (v := (Value.int .i64 (IntKind.i64.wrap (l18 - 1)))) (w' := w11) rfl rfl rfl (x_sub rfl rfl rfl) ?_
        refine wpR_val (v := (Value.int .i64 (IntKind.i64.wrap (l18 - 1)))) (w' := w11) rfl rfl rfl (x_assign (v := (Value.int .i64 (IntKind.i64.wrap (l18 - 1)))) rfl rfl) ?_
        refine wpR_nil ?_
        exact ⟨IntKind.i64.wrap (l18 - 1), ⟨rfl, e0, e3, e5, trivial⟩, h⟩
      · replace h := h.2 hc19
        refine wpC_exit ?_
        refine wpC_cut (fun ρ => ρ 0 = (Sl.v p0) ∧ ρ 3 = (Sl.v r9) ∧ ρ 5 = (Value.int .i64 l16) ∧ True) ⟨e0, e3, e5, trivial⟩ ?_
        rintro ρ ⟨e0, e3, e5, -⟩
        refine wpC_region ?_
        refine wpR_val (v := (Value.int .i64 l16)) (w' := w5) rfl rfl rfl (x_move (v := (Value.int .i64 l16)) rfl e5) ?_
        refine wpR_val (v := (Value.int .i64 (IntKind.i64.wrap (l16 + 1)))) (w' := w5) rfl rfl rfl (x_add rfl rfl rfl) ?_
        refine wpR_val (v := (Value.int .i64 (IntKind.i64.wrap (l16 + 1)))) (w' := w5) rfl rfl rfl (x_assign (v := (Value.int .i64 (IntKind.i64.wrap (l16 + 1)))) rfl rfl) ?_
        refine wpR_nil ?_
        exact ⟨IntKind.i64.wrap (l16 + 1), ⟨rfl, e0, e3, trivial⟩, h⟩
    · replace h := h.2 hc17
      refine wpC_exit ?_
      refine wpC_seq ?_
      refine wpC_cut (fun ρ => ρ 3 = (Sl.v r9) ∧ True) ⟨e3, trivial⟩ ?_
      rintro ρ ⟨e3, -⟩
      refine wpC_region ?_
      refine wpR_val (v := (Sl.v r9)) (w' := w4) rfl rfl rfl (x_move (v := (Sl.v r9)) rfl e3) ?_
      refine wpR_val (v := (Sl.v r9)) (w' := w4) rfl rfl rfl (x_assign (v := (Sl.v r9)) rfl rfl) ?_
      refine wpR_nil ?_
      refine wpC_ret ?_
      exact ⟨.inl rfl, fun a ha => ⟨_, results_rep1 rfl ha rfl, r9, rfl, h⟩⟩

/-- linguaref06.at -/
def F46 (p0 : Sl) (p1 : Sl) (p2 : Int) (w0 : World) (K : Int → World → Prop) : Prop :=
  lp (fun (next9 : (Int × Int) → World → Prop) l9 w1 =>
    cnd (decide (0 ≤ l9.2))
      (
      jn (fun (J12 : Int → World → Prop) => tk w1 fun w2 =>
        ix p0 l9.2 2 fun p13 =>
        ld (Value.int .i64) (p13.add 0) w2 fun x14 =>
        ix p1 l9.2 1 fun p15 =>
        ld (Value.int .i64) p15 w2 fun x16 =>
        callC Try.prog 47 #[(Value.int .i64 (IntKind.i64.wrap (p2 - x14)))] (fun (r : Int) => (Value.int .i64 r)) w2 fun r17 w3 =>
        (w3.cell? p15 = some (Value.int .i64 x16)) ∧
        (w3.cell? (p13.add 0) = some (Value.int .i64 x14)) ∧
        J12 ((IntKind.i64.wrap ((IntKind.i64.wrap (l9.1 * r17)) + x16)).tmod 2147483647) w3
      )
      fun l18 w4 =>
      next9 (l18, IntKind.i64.wrap (l9.2 - 1)) w4
      )
      (
      K l9.1 w1
      )
  ) (0, IntKind.i64.wrap ((p1.len : Int) - 1)) w0
set_option maxRecDepth 100000 in
theorem D46 (p0 : Sl) (p1 : Sl) (p2 : Int) (w0 : World) (K : Int → World → Prop) (h : F46 p0 p1 p2 w0 K) : callC Try.prog 46 #[(Sl.v p0), (Sl.v p1), (Value.int .i64 p2)] (fun (r : Int) => (Value.int .i64 r)) w0 K := by
  unfold F46 at h
  refine calls_of_wpC Try.func46 rfl 33 rfl (by simp) ?_
  intro ρ hρ
  have e0 : ρ 0 = (Sl.v p0) := hρ 0
  have e1 : ρ 1 = (Sl.v p1) := hρ 1
  have e2 : ρ 2 = (Value.int .i64 p2) := hρ 2
  clear hρ
  refine wpC_seq ?_
  refine wpC_region ?_
  refine wpR_val (v := (Value.int .i64 0)) (w' := w0) rfl rfl rfl (x_assign (v := (Value.int .i64 0)) rfl rfl) ?_
  refine wpR_nil ?_
  refine wpC_seq ?_
  refine wpC_cut (fun ρ => ρ 0 = (Sl.v p0) ∧ ρ 1 = (Sl.v p1) ∧ ρ 2 = (Value.int .i64 p2) ∧ True) ⟨e0, e1, e2, trivial⟩ ?_
  rintro ρ ⟨e0, e1, e2, -⟩
  refine wpC_region ?_
  refine wpR_val (v := (Value.int .i64 0)) (w' := w0) rfl rfl rfl (x_assign (v := (Value.int .i64 0)) rfl rfl) ?_
  refine wpR_nil ?_
  refine wpC_seq ?_
  refine wpC_seq ?_
  refine wpC_cut (fun ρ => ρ 0 = (Sl.v p0) ∧ ρ 1 = (Sl.v p1) ∧ ρ 2 = (Value.int .i64 p2) ∧ ρ 7 = (Value.int .i64 0) ∧ True) ⟨e0, e1, e2, rfl, trivial⟩ ?_
  rintro ρ ⟨e0, e1, e2, e7, -⟩
  refine wpC_region ?_
  refine wpR_val (v := (Sl.v p1)) (w' := w0) rfl rfl rfl (x_move (v := (Sl.v p1)) rfl e1) ?_
  refine wpR_val (v := (Value.int .i64 (p1.len : Int))) (w' := w0) rfl rfl rfl (x_lenS (s := p1) rfl rfl isSliceT_35) ?_
  refine wpR_val (v := (Value.int .i64 (IntKind.i64.wrap ((p1.len : Int) - 1)))) (w' := w0) rfl rfl rfl (x_sub rfl rfl rfl) ?_
  refine wpR_val (v := (Value.int .i64 (IntKind.i64.wrap ((p1.len : Int) - 1)))) (w' := w0) rfl rfl rfl (x_assign (v := (Value.int .i64 (IntKind.i64.wrap ((p1.len : Int) - 1)))) rfl rfl) ?_
  refine wpR_nil ?_
  refine wpC_block ?_
  obtain ⟨I9, μ9, hI9, hr9⟩ := h
  refine wpC_loop (fun (x : Int × Int) ρ => ρ 7 = (Value.int .i64 x.1) ∧ ρ 8 = (Value.int .i64 x.2) ∧ ρ 0 = (Sl.v p0) ∧ ρ 1 = (Sl.v p1) ∧ ρ 2 = (Value.int .i64 p2) ∧ True) I9 μ9 (0, IntKind.i64.wrap ((p1.len : Int) - 1)) ⟨e7, rfl, e0, e1, e2, trivial⟩ hI9 ?_
  rintro l9 ρ w1 ⟨e7, e8, e0, e1, e2, -⟩ h
  replace h := hr9 l9 w1 h
  clear hr9 hI9
  refine wpC_seq ?_
  refine wpC_seq ?_
  refine wpC_region ?_
  refine wpR_val (v := (Value.int .i64 l9.2)) (w' := w1) rfl rfl rfl (x_move (v := (Value.int .i64 l9.2)) rfl e8) ?_
  refine wpR_val (v := (Value.bool (decide (0 ≤ l9.2)))) (w' := w1) rfl rfl rfl (x_geq rfl rfl rfl) ?_
  refine wpR_nil ?_
  refine wpC_cond (b := decide (0 ≤ l9.2)) rfl (fun hc10 => ?_) (fun hc10 => ?_)
  · replace h := h.1 hc10
    refine wpC_skip ?_
    refine wpC_seq ?_
    refine wpC_block ?_
    refine wpC_cut (fun ρ => ρ 0 = (Sl.v p0) ∧ ρ 1 = (Sl.v p1) ∧ ρ 2 = (Value.int .i64 p2) ∧ ρ 7 = (Value.int .i64 l9.1) ∧ ρ 8 = (Value.int .i64 l9.2) ∧ True) ⟨e0, e1, e2, e7, e8, trivial⟩ ?_
    rintro ρ ⟨e0, e1, e2, e7, e8, -⟩
    obtain ⟨J12, h, hk⟩ := h
    refine wpC_drawJ (by kernel_rfl) (fun (x : Int) ρ => ρ 7 = (Value.int .i64 x) ∧ ρ 0 = (Sl.v p0) ∧ ρ 1 = (Sl.v p1) ∧ ρ 2 = (Value.int .i64 p2) ∧ ρ 8 = (Value.int .i64 l9.2) ∧ True) J12 ?_ ?_
    · clear hk
      unfold tk at h
      generalize w1.drew = w2 at h ⊢
      refine wpD_take (v := (Value.int .i64 l9.1)) 0 (fun _ => True) rfl (by kernel_rfl) (by kernel_rfl) (by kernel_rfl) rfl rfl rfl trivial (fun w _ => (x_move (v := (Value.int .i64 l9.1)) rfl e7)) ?_
      refine wpD_take (v := (Value.int .i64 p2)) 1 (fun _ => True) rfl (by kernel_rfl) (by kernel_rfl) (by kernel_rfl) rfl rfl rfl trivial (fun w _ => (x_move (v := (Value.int .i64 p2)) rfl e2)) ?_
      refine wpD_take (v := (Sl.v p0)) 2 (fun _ => True) rfl (by kernel_rfl) (by kernel_rfl) (by kernel_rfl) rfl rfl rfl trivial (fun w _ => (x_move (v := (Sl.v p0)) rfl e0)) ?_
      refine wpD_take (v := (Value.int .i64 l9.2)) 3 (fun _ => True) rfl (by kernel_rfl) (by kernel_rfl) (by kernel_rfl) rfl rfl rfl trivial (fun w _ => (x_move (v := (Value.int .i64 l9.2)) rfl e8)) ?_
      obtain ⟨q13, z13, r13, h⟩ := h
      generalize hp13 : z13.add ((l9.2 : Int).toNat * 2) = p13 at h
      refine wpD_take (v := (Value.pointer (some p13))) 4 (fun _ => True) rfl (by kernel_rfl) (by kernel_rfl) (by kernel_rfl) rfl rfl rfl trivial (fun w _ => ((x_indexAddr (s := p0) rfl rfl rfl ES_25 q13 r13).trans (by rw [hp13]))) ?_
      refine wpD_take (v := (Value.pointer (some (p13.add 0)))) 5 (fun _ => True) rfl (by kernel_rfl) (by kernel_rfl) (by kernel_rfl) rfl rfl rfl trivial (fun w _ => (x_fieldAddr rfl rfl FA_56_0)) ?_
      obtain ⟨x14, q14, h⟩ := h
      refine wpD_take (v := (Value.int .i64 x14)) 6 (fun w => w.cell? (p13.add 0) = some (Value.int .i64 x14)) rfl (by kernel_rfl) (by kernel_rfl) (by kernel_rfl) rfl rfl rfl q14 (fun w q14 => (x_load1 rfl rfl SH_3 q14)) ?_
      refine wpD_take (v := (Value.int .i64 (IntKind.i64.wrap (p2 - x14)))) 7 (fun _ => True) rfl (by kernel_rfl) (by kernel_rfl) (by kernel_rfl) rfl rfl rfl trivial (fun w _ => (x_sub rfl rfl rfl)) ?_
      refine wpD_take (v := (Sl.v p1)) 10 (fun _ => True) rfl (by kernel_rfl) (by kernel_rfl) (by kernel_rfl) rfl rfl rfl trivial (fun w _ => (x_move (v := (Sl.v p1)) rfl e1)) ?_
      refine wpD_take (v := (Value.int .i64 l9.2)) 11 (fun _ => True) rfl (by kernel_rfl) (by kernel_rfl) (by kernel_rfl) rfl rfl rfl trivial (fun w _ => (x_move (v := (Value.int .i64 l9.2)) rfl e8)) ?_
      obtain ⟨q15, z15, r15, h⟩ := h
      generalize hp15 : z15.add ((l9.2 : Int).toNat * 1) = p15 at h
      refine wpD_take (v := (Value.pointer (some p15))) 12 (fun _ => True) rfl (by kernel_rfl) (by kernel_rfl) (by kernel_rfl) rfl rfl rfl trivial (fun w _ => ((x_indexAddr (s := p1) rfl rfl rfl ES_35 q15 r15).trans (by rw [hp15]))) ?_
      obtain ⟨x16, q16, h⟩ := h
      refine wpD_take (v := (Value.int .i64 x16)) 13 (fun w => w.cell? p15 = some (Value.int .i64 x16)) rfl (by kernel_rfl) (by kernel_rfl) (by kernel_rfl) rfl rfl rfl q16 (fun w q16 => (x_load1 rfl rfl SH_3 q16)) ?_
      refine wpD_all (rs := [8]) (by kernel_rfl) (by simp) (allD_cons ?_ allD_nil)
      refine stepD_enterL (L' := [(13, fun w => w.cell? p15 = some (Value.int .i64 x16)), (12, fun _ => True), (11, fun _ => True), (10, fun _ => True), (6, fun w => w.cell? (p13.add 0) = some (Value.int .i64 x14)), (5, fun _ => True), (4, fun _ => True), (3, fun _ => True), (2, fun _ => True), (1, fun _ => True), (0, fun _ => True)]) rfl rfl rfl rfl (x_call (vs := [(Value.int .i64 (IntKind.i64.wrap (p2 - x14)))]) rfl rfl (mapl_cons rfl mapl_nil) Try.func47 NN_47 NB_47) (by kernel_rfl) (Calls.mono h ?_)
      rintro _ w3 ⟨r17, rfl, h⟩
      obtain ⟨o13, h⟩ := h
      obtain ⟨o6, h⟩ := h
      refine ⟨_, rfl, (held_cons o13 (held_cons trivial (held_cons trivial (held_cons trivial (held_cons o6 (held_cons trivial (held_cons trivial (held_cons trivial (held_cons trivial (held_cons trivial (held_cons trivial held_nil))))))))))), ?_⟩
      refine wpD_take (v := (Value.int .i64 (IntKind.i64.wrap (l9.1 * r17)))) 9 (fun _ => True) rfl (by kernel_rfl) (by kernel_rfl) (by kernel_rfl) rfl rfl rfl trivial (fun w _ => (x_mul rfl rfl rfl)) ?_
      refine wpD_take (v := (Value.int .i64 (IntKind.i64.wrap ((IntKind.i64.wrap (l9.1 * r17)) + x16)))) 14 (fun _ => True) rfl (by kernel_rfl) (by kernel_rfl) (by kernel_rfl) rfl rfl rfl trivial (fun w _ => (x_add rfl rfl rfl)) ?_
      refine wpD_take (v := (Value.int .i64 ((IntKind.i64.wrap ((IntKind.i64.wrap (l9.1 * r17)) + x16)).tmod 2147483647))) 15 (fun _ => True) rfl (by kernel_rfl) (by kernel_rfl) (by kernel_rfl) rfl rfl rfl trivial (fun w _ => (x_rem rfl rfl rfl (by decide))) ?_
      refine wpD_take (v := (Value.int .i64 ((IntKind.i64.wrap ((IntKind.i64.wrap (l9.1 * r17)) + x16)).tmod 2147483647))) 16 (fun _ => True) rfl (by kernel_rfl) (by kernel_rfl) (by kernel_rfl) rfl rfl rfl trivial (fun w _ => (x_assign (v := (Value.int .i64 ((IntKind.i64.wrap ((IntKind.i64.wrap (l9.1 * r17)) + x16)).tmod 2147483647))) rfl rfl)) ?_
      exact wpD_done (by kernel_rfl) ⟨(IntKind.i64.wrap ((IntKind.i64.wrap (l9.1 * r17)) + x16)).tmod 2147483647, ⟨rfl, e0, e1, e2, e8, trivial⟩, h⟩
    clear h
    rintro l18 ρ w4 ⟨e7, e0, e1, e2, e8, -⟩ h
    replace h := hk l18 w4 h
    clear hk
    refine wpC_region ?_
    refine wpR_val (v := (Value.int .i64 l9.2)) (w' := w4) rfl rfl rfl (x_move (v := (Value.int .i64 l9.2)) rfl e8) ?_
    refine wpR_val (v := (Value.int .i64 (IntKind.i64.wrap (l9.2 - 1)))) (w' := w4) rfl rfl rfl (x_sub rfl rfl rfl) ?_
    refine wpR_val (v := (Value.int .i64 (IntKind.i64.wrap (l9.2 - 1)))) (w' := w4) rfl rfl rfl (x_assign (v := (Value.int .i64 (IntKind.i64.wrap (l9.2 - 1)))) rfl rfl) ?_
    refine wpR_nil ?_
    exact ⟨(l18, IntKind.i64.wrap (l9.2 - 1)), ⟨e7, rfl, e0, e1, e2, trivial⟩, h⟩
  · replace h := h.2 hc10
    refine wpC_exit ?_
    refine wpC_seq ?_
    refine wpC_cut (fun ρ => ρ 7 = (Value.int .i64 l9.1) ∧ True) ⟨e7, trivial⟩ ?_
    rintro ρ ⟨e7, -⟩
    refine wpC_region ?_
    refine wpR_val (v := (Value.int .i64 l9.1)) (w' := w1) rfl rfl rfl (x_move (v := (Value.int .i64 l9.1)) rfl e7) ?_
    refine wpR_val (v := (Value.int .i64 l9.1)) (w' := w1) rfl rfl rfl (x_assign (v := (Value.int .i64 l9.1)) rfl rfl) ?_
    refine wpR_nil ?_
    refine wpC_ret ?_
    exact ⟨.inl rfl, fun a ha => ⟨_, results_rep1 rfl ha rfl, l9.1, rfl, h⟩⟩

/-- linguaref06.Mod -/
def F47 (p0 : Int) (w0 : World) (K : Int → World → Prop) : Prop :=
  K ((IntKind.i64.wrap ((p0.tmod 2147483647) + 2147483647)).tmod 2147483647) w0
set_option maxRecDepth 100000 in
theorem D47 (p0 : Int) (w0 : World) (K : Int → World → Prop) (h : F47 p0 w0 K) : callC Try.prog 47 #[(Value.int .i64 p0)] (fun (r : Int) => (Value.int .i64 r)) w0 K := by
  unfold F47 at h
  refine calls_of_wpC Try.func47 rfl 7 rfl (by simp) ?_
  intro ρ hρ
  have e0 : ρ 0 = (Value.int .i64 p0) := hρ 0
  clear hρ
  refine wpC_seq ?_
  refine wpC_region ?_
  refine wpR_val (v := (Value.int .i64 0)) (w' := w0) rfl rfl rfl (x_assign (v := (Value.int .i64 0)) rfl rfl) ?_
  refine wpR_nil ?_
  refine wpC_seq ?_
  refine wpC_cut (fun ρ => ρ 0 = (Value.int .i64 p0) ∧ True) ⟨e0, trivial⟩ ?_
  rintro ρ ⟨e0, -⟩
  refine wpC_region ?_
  refine wpR_val (v := (Value.int .i64 p0)) (w' := w0) rfl rfl rfl (x_move (v := (Value.int .i64 p0)) rfl e0) ?_
  refine wpR_val (v := (Value.int .i64 (p0.tmod 2147483647))) (w' := w0) rfl rfl rfl (x_rem rfl rfl rfl (by decide)) ?_
  refine wpR_val (v := (Value.int .i64 (IntKind.i64.wrap ((p0.tmod 2147483647) + 2147483647)))) (w' := w0) rfl rfl rfl (x_add rfl rfl rfl) ?_
  refine wpR_val (v := (Value.int .i64 ((IntKind.i64.wrap ((p0.tmod 2147483647) + 2147483647)).tmod 2147483647))) (w' := w0) rfl rfl rfl (x_rem rfl rfl rfl (by decide)) ?_
  refine wpR_val (v := (Value.int .i64 ((IntKind.i64.wrap ((p0.tmod 2147483647) + 2147483647)).tmod 2147483647))) (w' := w0) rfl rfl rfl (x_assign (v := (Value.int .i64 ((IntKind.i64.wrap ((p0.tmod 2147483647) + 2147483647)).tmod 2147483647))) rfl rfl) ?_
  refine wpR_nil ?_
  refine wpC_ret ?_
  exact ⟨.inl rfl, fun a ha => ⟨_, results_rep1 rfl ha rfl, (IntKind.i64.wrap ((p0.tmod 2147483647) + 2147483647)).tmod 2147483647, rfl, h⟩⟩

/-- linguaref06.Inverse -/
def F48 (p0 : Int) (w0 : World) (K : Int → World → Prop) : Prop :=
  lp (fun (next9 : (Int × Int × Int × Int) → World → Prop) l9 w1 =>
    cnd (decide (0 < l9.2.1))
      (
      l9.2.1 ≠ 0 ∧
      callC Try.prog 47 #[(Value.int .i64 (IntKind.i64.wrap (l9.2.2.1 - ((IntKind.i64.wrap ((IntKind.i64.wrap (l9.1.tdiv l9.2.1)) * l9.2.2.2)).tmod 2147483647))))] (fun (r : Int) => (Value.int .i64 r)) w1 fun r12 w2 =>
      next9 (l9.2.1, IntKind.i64.wrap (l9.1 - (IntKind.i64.wrap ((IntKind.i64.wrap (l9.1.tdiv l9.2.1)) * l9.2.1))), l9.2.2.2, r12) w2
      )
      (
      K l9.2.2.1 w1
      )
  ) (2147483647, p0, 0, 1) w0
set_option maxRecDepth 100000 in
theorem D48 (p0 : Int) (w0 : World) (K : Int → World → Prop) (h : F48 p0 w0 K) : callC Try.prog 48 #[(Value.int .i64 p0)] (fun (r : Int) => (Value.int .i64 r)) w0 K := by
  unfold F48 at h
  refine calls_of_wpC Try.func48 rfl 33 rfl (by simp) ?_
  intro ρ hρ
  have e0 : ρ 0 = (Value.int .i64 p0) := hρ 0
  clear hρ
  refine wpC_seq ?_
  refine wpC_region ?_
  refine wpR_val (v := (Value.int .i64 0)) (w' := w0) rfl rfl rfl (x_assign (v := (Value.int .i64 0)) rfl rfl) ?_
  refine wpR_nil ?_
  refine wpC_seq ?_
  refine wpC_cut (fun ρ => ρ 0 = (Value.int .i64 p0) ∧ True) ⟨e0, trivial⟩ ?_
  rintro ρ ⟨e0, -⟩
  refine wpC_region ?_
  refine wpR_val (v := (Value.int .i64 2147483647)) (w' := w0) rfl rfl rfl (x_assign (v := (Value.int .i64 2147483647)) rfl rfl) ?_
  refine wpR_nil ?_
  refine wpC_seq ?_
  refine wpC_cut (fun ρ => ρ 0 = (Value.int .i64 p0) ∧ ρ 3 = (Value.int .i64 2147483647) ∧ True) ⟨e0, rfl, trivial⟩ ?_
  rintro ρ ⟨e0, e3, -⟩
  refine wpC_region ?_
  refine wpR_val (v := (Value.int .i64 p0)) (w' := w0) rfl rfl rfl (x_move (v := (Value.int .i64 p0)) rfl e0) ?_
  refine wpR_val (v := (Value.int .i64 p0)) (w' := w0) rfl rfl rfl (x_assign (v := (Value.int .i64 p0)) rfl rfl) ?_
  refine wpR_nil ?_
  refine wpC_seq ?_
  refine wpC_cut (fun ρ => ρ 3 = (Value.int .i64 2147483647) ∧ ρ 4 = (Value.int .i64 p0) ∧ True) ⟨e3, rfl, trivial⟩ ?_
  rintro ρ ⟨e3, e4, -⟩
  refine wpC_region ?_
  refine wpR_val (v := (Value.int .i64 0)) (w' := w0) rfl rfl rfl (x_assign (v := (Value.int .i64 0)) rfl rfl) ?_
  refine wpR_nil ?_
  refine wpC_seq ?_
  refine wpC_cut (fun ρ => ρ 3 = (Value.int .i64 2147483647) ∧ ρ 4 = (Value.int .i64 p0) ∧ ρ 5 = (Value.int .i64 0) ∧ True) ⟨e3, e4, rfl, trivial⟩ ?_
  rintro ρ ⟨e3, e4, e5, -⟩
  refine wpC_region ?_
  refine wpR_val (v := (Value.int .i64 1)) (w' := w0) rfl rfl rfl (x_assign (v := (Value.int .i64 1)) rfl rfl) ?_
  refine wpR_nil ?_
  refine wpC_seq ?_
  refine wpC_block ?_
  obtain ⟨I9, μ9, hI9, hr9⟩ := h
  refine wpC_loop (fun (x : Int × Int × Int × Int) ρ => ρ 3 = (Value.int .i64 x.1) ∧ ρ 4 = (Value.int .i64 x.2.1) ∧ ρ 5 = (Value.int .i64 x.2.2.1) ∧ ρ 6 = (Value.int .i64 x.2.2.2) ∧ True) I9 μ9 (2147483647, p0, 0, 1) ⟨e3, e4, e5, rfl, trivial⟩ hI9 ?_
  rintro l9 ρ w1 ⟨e3, e4, e5, e6, -⟩ h
  replace h := hr9 l9 w1 h
  clear hr9 hI9
  refine wpC_seq ?_
  refine wpC_seq ?_
  refine wpC_region ?_
  refine wpR_val (v := (Value.int .i64 l9.2.1)) (w' := w1) rfl rfl rfl (x_move (v := (Value.int .i64 l9.2.1)) rfl e4) ?_
  refine wpR_val (v := (Value.bool (decide (0 < l9.2.1)))) (w' := w1) rfl rfl rfl (x_gtr rfl rfl rfl) ?_
  refine wpR_nil ?_
  refine wpC_cond (b := decide (0 < l9.2.1)) rfl (fun hc10 => ?_) (fun hc10 => ?_)
  · replace h := h.1 hc10
    refine wpC_skip ?_
    refine wpC_block ?_
    refine wpC_seq ?_
    refine wpC_cut (fun ρ => ρ 3 = (Value.int .i64 l9.1) ∧ ρ 4 = (Value.int .i64 l9.2.1) ∧ ρ 5 = (Value.int .i64 l9.2.2.1) ∧ ρ 6 = (Value.int .i64 l9.2.2.2) ∧ True) ⟨e3, e4, e5, e6, trivial⟩ ?_
    rintro ρ ⟨e3, e4, e5, e6, -⟩
    refine wpC_region ?_
    refine wpR_val (v := (Value.int .i64 l9.1)) (w' := w1) rfl rfl rfl (x_move (v := (Value.int .i64 l9.1)) rfl e3) ?_
    refine wpR_val (v := (Value.int .i64 l9.2.1)) (w' := w1) rfl rfl rfl (x_move (v := (Value.int .i64 l9.2.1)) rfl e4) ?_
    obtain ⟨q11, h⟩ := h
    refine wpR_val (v := (Value.int .i64 (IntKind.i64.wrap (l9.1.tdiv l9.2.1)))) (w' := w1) rfl rfl rfl (x_quo rfl rfl rfl q11) ?_
    refine wpR_val (v := (Value.int .i64 (IntKind.i64.wrap (l9.1.tdiv l9.2.1)))) (w' := w1) rfl rfl rfl (x_assign (v := (Value.int .i64 (IntKind.i64.wrap (l9.1.tdiv l9.2.1)))) rfl rfl) ?_
    refine wpR_nil ?_
    refine wpC_seq ?_
    refine wpC_cut (fun ρ => ρ 3 = (Value.int .i64 l9.1) ∧ ρ 4 = (Value.int .i64 l9.2.1) ∧ ρ 5 = (Value.int .i64 l9.2.2.1) ∧ ρ 6 = (Value.int .i64 l9.2.2.2) ∧ ρ 7 = (Value.int .i64 (IntKind.i64.wrap (l9.1.tdiv l9.2.1))) ∧ True) ⟨e3, e4, e5, e6, rfl, trivial⟩ ?_
    rintro ρ ⟨e3, e4, e5, e6, e7, -⟩
    refine wpC_region ?_
    refine wpR_val (v := (Value.int .i64 l9.1)) (w' := w1) rfl rfl rfl (x_move (v := (Value.int .i64 l9.1)) rfl e3) ?_
    refine wpR_val (v := (Value.int .i64 (IntKind.i64.wrap (l9.1.tdiv l9.2.1)))) (w' := w1) rfl rfl rfl (x_move (v := (Value.int .i64 (IntKind.i64.wrap (l9.1.tdiv l9.2.1)))) rfl e7) ?_
    refine wpR_val (v := (Value.int .i64 l9.2.1)) (w' := w1) rfl rfl rfl (x_move (v := (Value.int .i64 l9.2.1)) rfl e4) ?_
    refine wpR_val (v := (Value.int .i64 (IntKind.i64.wrap ((IntKind.i64.wrap (l9.1.tdiv l9.2.1)) * l9.2.1)))) (w' := w1) rfl rfl rfl (x_mul rfl rfl rfl) ?_
    refine wpR_val (v := (Value.int .i64 (IntKind.i64.wrap (l9.1 - (IntKind.i64.wrap ((IntKind.i64.wrap (l9.1.tdiv l9.2.1)) * l9.2.1)))))) (w' := w1) rfl rfl rfl (x_sub rfl rfl rfl) ?_
    refine wpR_val (v := (Value.int .i64 (IntKind.i64.wrap (l9.1 - (IntKind.i64.wrap ((IntKind.i64.wrap (l9.1.tdiv l9.2.1)) * l9.2.1)))))) (w' := w1) rfl rfl rfl (x_assign (v := (Value.int .i64 (IntKind.i64.wrap (l9.1 - (IntKind.i64.wrap ((IntKind.i64.wrap (l9.1.tdiv l9.2.1)) * l9.2.1)))))) rfl rfl) ?_
    refine wpR_nil ?_
    refine wpC_seq ?_
    refine wpC_cut (fun ρ => ρ 4 = (Value.int .i64 l9.2.1) ∧ ρ 5 = (Value.int .i64 l9.2.2.1) ∧ ρ 6 = (Value.int .i64 l9.2.2.2) ∧ ρ 7 = (Value.int .i64 (IntKind.i64.wrap (l9.1.tdiv l9.2.1))) ∧ ρ 8 = (Value.int .i64 (IntKind.i64.wrap (l9.1 - (IntKind.i64.wrap ((IntKind.i64.wrap (l9.1.tdiv l9.2.1)) * l9.2.1))))) ∧ True) ⟨e4, e5, e6, e7, rfl, trivial⟩ ?_
    rintro ρ ⟨e4, e5, e6, e7, e8, -⟩
    refine wpC_region ?_
    refine wpR_val (v := (Value.int .i64 l9.2.1)) (w' := w1) rfl rfl rfl (x_move (v := (Value.int .i64 l9.2.1)) rfl e4) ?_
    refine wpR_val (v := (Value.int .i64 l9.2.1)) (w' := w1) rfl rfl rfl (x_assign (v := (Value.int .i64 l9.2.1)) rfl rfl) ?_
    refine wpR_nil ?_
    refine wpC_seq ?_
    refine wpC_cut (fun ρ => ρ 3 = (Value.int .i64 l9.2.1) ∧ ρ 5 = (Value.int .i64 l9.2.2.1) ∧ ρ 6 = (Value.int .i64 l9.2.2.2) ∧ ρ 7 = (Value.int .i64 (IntKind.i64.wrap (l9.1.tdiv l9.2.1))) ∧ ρ 8 = (Value.int .i64 (IntKind.i64.wrap (l9.1 - (IntKind.i64.wrap ((IntKind.i64.wrap (l9.1.tdiv l9.2.1)) * l9.2.1))))) ∧ True) ⟨rfl, e5, e6, e7, e8, trivial⟩ ?_
    rintro ρ ⟨e3, e5, e6, e7, e8, -⟩
    refine wpC_region ?_
    refine wpR_val (v := (Value.int .i64 (IntKind.i64.wrap (l9.1 - (IntKind.i64.wrap ((IntKind.i64.wrap (l9.1.tdiv l9.2.1)) * l9.2.1)))))) (w' := w1) rfl rfl rfl (x_move (v := (Value.int .i64 (IntKind.i64.wrap (l9.1 - (IntKind.i64.wrap ((IntKind.i64.wrap (l9.1.tdiv l9.2.1)) * l9.2.1)))))) rfl e8) ?_
    refine wpR_val (v := (Value.int .i64 (IntKind.i64.wrap (l9.1 - (IntKind.i64.wrap ((IntKind.i64.wrap (l9.1.tdiv l9.2.1)) * l9.2.1)))))) (w' := w1) rfl rfl rfl (x_assign (v := (Value.int .i64 (IntKind.i64.wrap (l9.1 - (IntKind.i64.wrap ((IntKind.i64.wrap (l9.1.tdiv l9.2.1)) * l9.2.1)))))) rfl rfl) ?_
    refine wpR_nil ?_
    refine wpC_seq ?_
    refine wpC_cut (fun ρ => ρ 3 = (Value.int .i64 l9.2.1) ∧ ρ 4 = (Value.int .i64 (IntKind.i64.wrap (l9.1 - (IntKind.i64.wrap ((IntKind.i64.wrap (l9.1.tdiv l9.2.1)) * l9.2.1))))) ∧ ρ 5 = (Value.int .i64 l9.2.2.1) ∧ ρ 6 = (Value.int .i64 l9.2.2.2) ∧ ρ 7 = (Value.int .i64 (IntKind.i64.wrap (l9.1.tdiv l9.2.1))) ∧ True) ⟨e3, rfl, e5, e6, e7, trivial⟩ ?_
    rintro ρ ⟨e3, e4, e5, e6, e7, -⟩
    refine wpC_region ?_
    refine wpR_val (v := (Value.int .i64 l9.2.2.1)) (w' := w1) rfl rfl rfl (x_move (v := (Value.int .i64 l9.2.2.1)) rfl e5) ?_
    refine wpR_val (v := (Value.int .i64 (IntKind.i64.wrap (l9.1.tdiv l9.2.1)))) (w' := w1) rfl rfl rfl (x_move (v := (Value.int .i64 (IntKind.i64.wrap (l9.1.tdiv l9.2.1)))) rfl e7) ?_
    refine wpR_val (v := (Value.int .i64 l9.2.2.2)) (w' := w1) rfl rfl rfl (x_move (v := (Value.int .i64 l9.2.2.2)) rfl e6) ?_
    refine wpR_val (v := (Value.int .i64 (IntKind.i64.wrap ((IntKind.i64.wrap (l9.1.tdiv l9.2.1)) * l9.2.2.2)))) (w' := w1) rfl rfl rfl (x_mul rfl rfl rfl) ?_
    refine wpR_val (v := (Value.int .i64 ((IntKind.i64.wrap ((IntKind.i64.wrap (l9.1.tdiv l9.2.1)) * l9.2.2.2)).tmod 2147483647))) (w' := w1) rfl rfl rfl (x_rem rfl rfl rfl (by decide)) ?_
    refine wpR_val (v := (Value.int .i64 (IntKind.i64.wrap (l9.2.2.1 - ((IntKind.i64.wrap ((IntKind.i64.wrap (l9.1.tdiv l9.2.1)) * l9.2.2.2)).tmod 2147483647))))) (w' := w1) rfl rfl rfl (x_sub rfl rfl rfl) ?_
    refine wpR_enter rfl rfl rfl (x_call (vs := [(Value.int .i64 (IntKind.i64.wrap (l9.2.2.1 - ((IntKind.i64.wrap ((IntKind.i64.wrap (l9.1.tdiv l9.2.1)) * l9.2.2.2)).tmod 2147483647))))]) rfl rfl (mapl_cons rfl mapl_nil) Try.func47 NN_47 NB_47) (Calls.mono h ?_)
    rintro _ w2 ⟨r12, rfl, h⟩
    refine ⟨_, rfl, ?_⟩
    refine wpR_val (v := (Value.int .i64 r12)) (w' := w2) rfl rfl rfl (x_assign (v := (Value.int .i64 r12)) rfl rfl) ?_
    refine wpR_nil ?_
    refine wpC_seq ?_
    refine wpC_cut (fun ρ => ρ 3 = (Value.int .i64 l9.2.1) ∧ ρ 4 = (Value.int .i64 (IntKind.i64.wrap (l9.1 - (IntKind.i64.wrap ((IntKind.i64.wrap (l9.1.tdiv l9.2.1)) * l9.2.1))))) ∧ ρ 6 = (Value.int .i64 l9.2.2.2) ∧ ρ 9 = (Value.int .i64 r12) ∧ True) ⟨e3, e4, e6, rfl, trivial⟩ ?_
    rintro ρ ⟨e3, e4, e6, e9, -⟩
    refine wpC_region ?_
    refine wpR_val (v := (Value.int .i64 l9.2.2.2)) (w' := w2) rfl rfl rfl (x_move (v := (Value.int .i64 l9.2.2.2)) rfl e6) ?_
    refine wpR_val (v := (Value.int .i64 l9.2.2.2)) (w' := w2) rfl rfl rfl (x_assign (v := (Value.int .i64 l9.2.2.2)) rfl rfl) ?_
    refine wpR_nil ?_
    refine wpC_cut (fun ρ => ρ 3 = (Value.int .i64 l9.2.1) ∧ ρ 4 = (Value.int .i64 (IntKind.i64.wrap (l9.1 - (IntKind.i64.wrap ((IntKind.i64.wrap (l9.1.tdiv l9.2.1)) * l9.2.1))))) ∧ ρ 5 = (Value.int .i64 l9.2.2.2) ∧ ρ 9 = (Value.int .i64 r12) ∧ True) ⟨e3, e4, rfl, e9, trivial⟩ ?_
    rintro ρ ⟨e3, e4, e5, e9, -⟩
    refine wpC_region ?_
    refine wpR_val (v := (Value.int .i64 r12)) (w' := w2) rfl rfl rfl (x_move (v := (Value.int .i64 r12)) rfl e9) ?_
    refine wpR_val (v := (Value.int .i64 r12)) (w' := w2) rfl rfl rfl (x_assign (v := (Value.int .i64 r12)) rfl rfl) ?_
    refine wpR_nil ?_
    exact ⟨(l9.2.1, IntKind.i64.wrap (l9.1 - (IntKind.i64.wrap ((IntKind.i64.wrap (l9.1.tdiv l9.2.1)) * l9.2.1))), l9.2.2.2, r12), ⟨e3, e4, e5, rfl, trivial⟩, h⟩
  · replace h := h.2 hc10
    refine wpC_exit ?_
    refine wpC_seq ?_
    refine wpC_cut (fun ρ => ρ 5 = (Value.int .i64 l9.2.2.1) ∧ True) ⟨e5, trivial⟩ ?_
    rintro ρ ⟨e5, -⟩
    refine wpC_region ?_
    refine wpR_val (v := (Value.int .i64 l9.2.2.1)) (w' := w1) rfl rfl rfl (x_move (v := (Value.int .i64 l9.2.2.1)) rfl e5) ?_
    refine wpR_val (v := (Value.int .i64 l9.2.2.1)) (w' := w1) rfl rfl rfl (x_assign (v := (Value.int .i64 l9.2.2.1)) rfl rfl) ?_
    refine wpR_nil ?_
    refine wpC_ret ?_
    exact ⟨.inl rfl, fun a ha => ⟨_, results_rep1 rfl ha rfl, l9.2.2.1, rfl, h⟩⟩


end Go.Proofs.Ytmnhehklhelpeaa
