import Derived.Test.YtmnhehklhelpeaaRows
import Derived.Test.YtmnhehklhelpeaaFs1
import Derived.Test.YtmnhehklhelpeaaDecRaw
namespace Go.Proofs.Ytmnhehklhelpeaa
open Go.Dec
set_option maxHeartbeats 400000
set_option maxRecDepth 100000

/-- (*vault.Vault).Lock -/
def F27 (p0 : Option Addr) (p1 : Int) (p2 : ByteArray) (w0 : World) (K : (Int × Int) → World → Prop) : Prop :=
  callC Try.prog 38 #[(Value.pointer p0), (Value.int .i64 p1)] (fun (r : Bool) => (Value.bool r)) w0 fun r9 w1 =>
  cnd (!r9)
    (
    K (0, 4) w1
    )
    (
    nn p0 fun a11 =>
    ld Sl.v (a11.add 0) w1 fun x12 =>
    ix x12 p1 1 fun p13 =>
    ld Value.bool p13 w1 fun x14 =>
    cnd (!x14)
      (
      K (0, 13) w1
      )
      (
      nn p0 fun a16 =>
      ld Sl.v (a16.add 1) w1 fun x17 =>
      nw 83 #[(Value.int .i64 p1), (Value.string p2)] w1 fun b18 w2 =>
      rn Try.prog (Builtin.append_ #[79, 79] 79 #[Sl.v x17, Sl.v (⟨some ⟨b18, 0, none⟩, 1, 1⟩ : Sl)]) Sl.v w2 fun r19 w3 =>
      nn p0 fun a20 =>
      st (a20.add 1) [(Sl.v r19)] w3 fun w4 =>
      nn p0 fun a22 =>
      ld Sl.v (a22.add 1) w4 fun x23 =>
      K (IntKind.i64.wrap ((x23.len : Int) - 1), 0) w4
      )
    )
set_option maxRecDepth 100000 in
theorem D27 (p0 : Option Addr) (p1 : Int) (p2 : ByteArray) (w0 : World) (K : (Int × Int) → World → Prop) (h : F27 p0 p1 p2 w0 K) : callC Try.prog 27 #[(Value.pointer p0), (Value.int .i64 p1), (Value.string p2)] (fun (r : Int × Int) => (Value.tuple #[(Value.int .i64 r.1), (Value.int .i64 r.2)])) w0 K := by
  unfold F27 at h
  refine calls_of_wpC Try.func27 rfl 40 rfl (by simp) ?_
  intro ρ hρ
  have e0 : ρ 0 = (Value.pointer p0) := hρ 0
  have e1 : ρ 1 = (Value.int .i64 p1) := hρ 1
  have e2 : ρ 2 = (Value.string p2) := hρ 2
  clear hρ
  refine wpC_seq ?_
  refine wpC_region ?_
  refine wpR_val (v := (Value.int .i64 0)) (w' := w0) rfl rfl rfl (x_assign (v := (Value.int .i64 0)) rfl rfl) ?_
  refine wpR_val (v := (Value.int .i64 0)) (w' := w0) rfl rfl rfl (x_assign (v := (Value.int .i64 0)) rfl rfl) ?_
  refine wpR_nil ?_
  refine wpC_seq ?_
  refine wpC_block ?_
  refine wpC_seq ?_
  refine wpC_cut (fun ρ => ρ 0 = (Value.pointer p0) ∧ ρ 1 = (Value.int .i64 p1) ∧ ρ 2 = (Value.string p2) ∧ True) ⟨e0, e1, e2, trivial⟩ ?_
  rintro ρ ⟨e0, e1, e2, -⟩
  refine wpC_region ?_
  refine wpR_val (v := (Value.pointer p0)) (w' := w0) rfl rfl rfl (x_move (v := (Value.pointer p0)) rfl e0) ?_
  refine wpR_val (v := (Value.int .i64 p1)) (w' := w0) rfl rfl rfl (x_move (v := (Value.int .i64 p1)) rfl e1) ?_
  refine wpR_enter rfl rfl rfl (x_call (vs := [(Value.pointer p0), (Value.int .i64 p1)]) rfl rfl (mapl_cons rfl (mapl_cons rfl mapl_nil)) Try.func38 NN_38 NB_38) (Calls.mono h ?_)
  rintro _ w1 ⟨r9, rfl, h⟩
  refine ⟨_, rfl, ?_⟩
  refine wpR_val (v := (Value.bool (!r9))) (w' := w1) rfl rfl rfl (x_not rfl rfl) ?_
  refine wpR_val (v := (Value.bool (!r9))) (w' := w1) rfl rfl rfl (x_assign (v := (Value.bool (!r9))) rfl rfl) ?_
  refine wpR_nil ?_
  refine wpC_cond (b := !r9) rfl (fun hc10 => ?_) (fun hc10 => ?_)
  · replace h := h.1 hc10
    refine wpC_seq ?_
    refine wpC_cut (fun ρ => True) trivial ?_
    rintro ρ -
    refine wpC_region ?_
    refine wpR_val (v := (Value.int .i64 0)) (w' := w1) rfl rfl rfl (x_assign (v := (Value.int .i64 0)) rfl rfl) ?_
    refine wpR_val (v := (Value.int .i64 4)) (w' := w1) rfl rfl rfl (x_assign (v := (Value.int .i64 4)) rfl rfl) ?_
    refine wpR_nil ?_
    refine wpC_ret ?_
    exact ⟨.inl rfl, fun a ha => ⟨_, results_rep2 rfl ha rfl rfl, (0, 4), rfl, h⟩⟩
  · replace h := h.2 hc10
    refine wpC_seq ?_
    refine wpC_cut (fun ρ => ρ 0 = (Value.pointer p0) ∧ ρ 1 = (Value.int .i64 p1) ∧ ρ 2 = (Value.string p2) ∧ True) ⟨e0, e1, e2, trivial⟩ ?_
    rintro ρ ⟨e0, e1, e2, -⟩
    refine wpC_region ?_
    refine wpR_val (v := (Value.pointer p0)) (w' := w1) rfl rfl rfl (x_move (v := (Value.pointer p0)) rfl e0) ?_
    obtain ⟨a11, q11, h⟩ := h
    refine wpR_val (v := (Value.pointer (some a11))) (w' := w1) rfl rfl rfl (x_nilCheck rfl rfl q11) ?_
    refine wpR_val (v := (Value.pointer (some (a11.add 0)))) (w' := w1) rfl rfl rfl (x_fieldAddr rfl rfl FA_81_0) ?_
    obtain ⟨x12, q12, h⟩ := h
    refine wpR_val (v := (Sl.v x12)) (w' := w1) rfl rfl rfl (x_load1 rfl rfl SH_78 q12) ?_
    refine wpR_val (v := (Value.int .i64 p1)) (w' := w1) rfl rfl rfl (x_move (v := (Value.int .i64 p1)) rfl e1) ?_
    obtain ⟨q13, z13, r13, h⟩ := h
    generalize hp13 : z13.add ((p1 : Int).toNat * 1) = p13 at h
    refine wpR_val (v := (Value.pointer (some p13))) (w' := w1) rfl rfl rfl ((x_indexAddr (s := x12) rfl rfl rfl ES_78 q13 r13).trans (by rw [hp13])) ?_
    obtain ⟨x14, q14, h⟩ := h
    refine wpR_val (v := (Value.bool x14)) (w' := w1) rfl rfl rfl (x_load1 rfl rfl SH_4 q14) ?_
    refine wpR_val (v := (Value.bool (!x14))) (w' := w1) rfl rfl rfl (x_not rfl rfl) ?_
    refine wpR_val (v := (Value.bool (!x14))) (w' := w1) rfl rfl rfl (x_assign (v := (Value.bool (!x14))) rfl rfl) ?_
    refine wpR_nil ?_
    refine wpC_cond (b := !x14) rfl (fun hc15 => ?_) (fun hc15 => ?_)
    · replace h := h.1 hc15
      refine wpC_seq ?_
      refine wpC_cut (fun ρ => True) trivial ?_
      rintro ρ -
      refine wpC_region ?_
      refine wpR_val (v := (Value.int .i64 0)) (w' := w1) rfl rfl rfl (x_assign (v := (Value.int .i64 0)) rfl rfl) ?_
      refine wpR_val (v := (Value.int .i64 13)) (w' := w1) rfl rfl rfl (x_assign (v := (Value.int .i64 13)) rfl rfl) ?_
      refine wpR_nil ?_
      refine wpC_ret ?_
      exact ⟨.inl rfl, fun a ha => ⟨_, results_rep2 rfl ha rfl rfl, (0, 13), rfl, h⟩⟩
    · replace h := h.2 hc15
      refine wpC_skip ?_
      refine wpC_seq ?_
      refine wpC_cut (fun ρ => ρ 0 = (Value.pointer p0) ∧ ρ 1 = (Value.int .i64 p1) ∧ ρ 2 = (Value.string p2) ∧ True) ⟨e0, e1, e2, trivial⟩ ?_
      rintro ρ ⟨e0, e1, e2, -⟩
      refine wpC_region ?_
      refine wpR_val (v := (Value.pointer p0)) (w' := w1) rfl rfl rfl (x_move (v := (Value.pointer p0)) rfl e0) ?_
      refine wpR_val (v := (Value.pointer p0)) (w' := w1) rfl rfl rfl (x_move (v := (Value.pointer p0)) rfl e0) ?_
      obtain ⟨a16, q16, h⟩ := h
      refine wpR_val (v := (Value.pointer (some a16))) (w' := w1) rfl rfl rfl (x_nilCheck rfl rfl q16) ?_
      refine wpR_val (v := (Value.pointer (some (a16.add 1)))) (w' := w1) rfl rfl rfl (x_fieldAddr rfl rfl FA_81_1) ?_
      obtain ⟨x17, q17, h⟩ := h
      refine wpR_val (v := (Sl.v x17)) (w' := w1) rfl rfl rfl (x_load1 rfl rfl SH_79 q17) ?_
      refine wpR_val (v := (Value.int .i64 p1)) (w' := w1) rfl rfl rfl (x_move (v := (Value.int .i64 p1)) rfl e1) ?_
      refine wpR_val (v := (Value.string p2)) (w' := w1) rfl rfl rfl (x_move (v := (Value.string p2)) rfl e2) ?_
      refine wpR_val (v := (Value.agg #[(Value.int .i64 p1), (Value.string p2)])) (w' := w1) rfl rfl rfl (x_build (qs := [(0, (Value.int .i64 p1)), (1, (Value.string p2))]) rfl (by rfl) (BD_83_0_1 p1 p2 _)) ?_
      obtain ⟨b18, hb18⟩ : ∃ u, u = w1.heap.size := ⟨_, rfl⟩
      obtain ⟨w2, hw18⟩ : ∃ u, u = w1.alloc (.cells #[(Value.int .i64 p1), (Value.string p2)] 83) := ⟨_, rfl⟩
      replace h := h b18 w2 hb18 hw18
      refine wpR_val (v := (Sl.v (⟨some ⟨b18, 0, none⟩, 1, 1⟩ : Sl))) (w' := w2) rfl rfl rfl ((x_buildSlice (qs := [(0, (Value.agg #[(Value.int .i64 p1), (Value.string p2)]))]) rfl (by rfl) (BS_79_1_0 p1 p2)).trans (by rw [← hb18, ← hw18])) ?_
      obtain ⟨r19, w3, q19, h⟩ := h
      refine wpR_val (v := (Sl.v r19)) (w' := w3) rfl rfl rfl (x_append (s := x17) (u := (⟨some ⟨b18, 0, none⟩, 1, 1⟩ : Sl)) rfl rfl rfl rfl q19) ?_
      obtain ⟨a20, q20, h⟩ := h
      refine wpR_val (v := (Value.pointer (some a20))) (w' := w3) rfl rfl rfl (x_nilCheck rfl rfl q20) ?_
      refine wpR_val (v := (Value.pointer (some (a20.add 1)))) (w' := w3) rfl rfl rfl (x_fieldAddr rfl rfl FA_81_1) ?_
      obtain ⟨q21, h⟩ := h
      obtain ⟨w4, hw21⟩ : ∃ u, u = setAll w3 (a20.add 1) [(Sl.v r19)] 0 := ⟨_, rfl⟩
      replace h := h w4 hw21
      refine wpR_skp (w' := w4) rfl rfl ((x_store (v := (Sl.v r19)) rfl rfl rfl SZ_79 (ones (by rfl)) q21).trans (by rw [hw21]; rfl)) ?_
      refine wpR_nil ?_
      refine wpC_seq ?_
      refine wpC_cut (fun ρ => ρ 0 = (Value.pointer p0) ∧ True) ⟨e0, trivial⟩ ?_
      rintro ρ ⟨e0, -⟩
      refine wpC_region ?_
      refine wpR_val (v := (Value.pointer p0)) (w' := w4) rfl rfl rfl (x_move (v := (Value.pointer p0)) rfl e0) ?_
      obtain ⟨a22, q22, h⟩ := h
      refine wpR_val (v := (Value.pointer (some a22))) (w' := w4) rfl rfl rfl (x_nilCheck rfl rfl q22) ?_
      refine wpR_val (v := (Value.pointer (some (a22.add 1)))) (w' := w4) rfl rfl rfl (x_fieldAddr rfl rfl FA_81_1) ?_
      obtain ⟨x23, q23, h⟩ := h
      refine wpR_val (v := (Sl.v x23)) (w' := w4) rfl rfl rfl (x_load1 rfl rfl SH_79 q23) ?_
      refine wpR_val (v := (Value.int .i64 (x23.len : Int))) (w' := w4) rfl rfl rfl (x_lenS (s := x23) rfl rfl isSliceT_79) ?_
      refine wpR_val (v := (Value.int .i64 (IntKind.i64.wrap ((x23.len : Int) - 1)))) (w' := w4) rfl rfl rfl (x_sub rfl rfl rfl) ?_
      refine wpR_val (v := (Value.int .i64 (IntKind.i64.wrap ((x23.len : Int) - 1)))) (w' := w4) rfl rfl rfl (x_assign (v := (Value.int .i64 (IntKind.i64.wrap ((x23.len : Int) - 1)))) rfl rfl) ?_
      refine wpR_val (v := (Value.int .i64 0)) (w' := w4) rfl rfl rfl (x_assign (v := (Value.int .i64 0)) rfl rfl) ?_
      refine wpR_nil ?_
      refine wpC_ret ?_
      exact ⟨.inl rfl, fun a ha => ⟨_, results_rep2 rfl ha rfl rfl, (IntKind.i64.wrap ((x23.len : Int) - 1), 0), rfl, h⟩⟩

/-- share.Join -/
def F28 (p0 : Sl) (p1 : Int) (w0 : World) (K : (Int × Int) → World → Prop) : Prop :=
  callC Try.prog 31 #[(Sl.v p0), (Value.int .i64 p1)] (fun (r : Int) => (Value.int .i64 r)) w0 fun r9 w1 =>
  cnd (!decide (r9 = 0))
    (
    K (0, r9) w1
    )
    (
    cnd (decide ((p0.len : Int) < p1))
      (
      K (0, 20) w1
      )
      (
      callC Try.prog 33 #[(Sl.v p0), (Value.int .i64 p1)] (fun (r : Bool) => (Value.bool r)) w1 fun r12 w2 =>
      cnd (!r12)
        (
        K (0, 18) w2
        )
        (
        rn Try.prog (Instr.sliceAt 25 (Sl.v p0) none (some (Value.int .i64 p1)) none) (fun (r : Sl) => (Sl.v r)) w2 fun r14 w3 =>
        callC Try.prog 39 #[(Sl.v r14), (Value.int .i64 0)] (fun (r : Int) => (Value.int .i64 r)) w3 fun r15 w4 =>
        K (r15, 0) w4
        )
      )
    )
set_option maxRecDepth 100000 in
theorem D28 (p0 : Sl) (p1 : Int) (w0 : World) (K : (Int × Int) → World → Prop) (h : F28 p0 p1 w0 K) : callC Try.prog 28 #[(Sl.v p0), (Value.int .i64 p1)] (fun (r : Int × Int) => (Value.tuple #[(Value.int .i64 r.1), (Value.int .i64 r.2)])) w0 K := by
  unfold F28 at h
  refine calls_of_wpC Try.func28 rfl 25 rfl (by simp) ?_
  intro ρ hρ
  have e0 : ρ 0 = (Sl.v p0) := hρ 0
  have e1 : ρ 1 = (Value.int .i64 p1) := hρ 1
  clear hρ
  refine wpC_seq ?_
  refine wpC_region ?_
  refine wpR_val (v := (Value.int .i64 0)) (w' := w0) rfl rfl rfl (x_assign (v := (Value.int .i64 0)) rfl rfl) ?_
  refine wpR_val (v := (Value.int .i64 0)) (w' := w0) rfl rfl rfl (x_assign (v := (Value.int .i64 0)) rfl rfl) ?_
  refine wpR_nil ?_
  refine wpC_seq ?_
  refine wpC_seq ?_
  refine wpC_cut (fun ρ => ρ 0 = (Sl.v p0) ∧ ρ 1 = (Value.int .i64 p1) ∧ True) ⟨e0, e1, trivial⟩ ?_
  rintro ρ ⟨e0, e1, -⟩
  refine wpC_region ?_
  refine wpR_val (v := (Sl.v p0)) (w' := w0) rfl rfl rfl (x_move (v := (Sl.v p0)) rfl e0) ?_
  refine wpR_val (v := (Value.int .i64 p1)) (w' := w0) rfl rfl rfl (x_move (v := (Value.int .i64 p1)) rfl e1) ?_
  refine wpR_enter rfl rfl rfl (x_call (vs := [(Sl.v p0), (Value.int .i64 p1)]) rfl rfl (mapl_cons rfl (mapl_cons rfl mapl_nil)) Try.func31 NN_31 NB_31) (Calls.mono h ?_)
  rintro _ w1 ⟨r9, rfl, h⟩
  refine ⟨_, rfl, ?_⟩
  refine wpR_val (v := (Value.int .i64 r9)) (w' := w1) rfl rfl rfl (x_assign (v := (Value.int .i64 r9)) rfl rfl) ?_
  refine wpR_nil ?_
  refine wpC_seq ?_
  refine wpC_cut (fun ρ => ρ 0 = (Sl.v p0) ∧ ρ 1 = (Value.int .i64 p1) ∧ ρ 6 = (Value.int .i64 r9) ∧ True) ⟨e0, e1, rfl, trivial⟩ ?_
  rintro ρ ⟨e0, e1, e6, -⟩
  refine wpC_region ?_
  refine wpR_val (v := (Value.int .i64 r9)) (w' := w1) rfl rfl rfl (x_move (v := (Value.int .i64 r9)) rfl e6) ?_
  refine wpR_val (v := (Value.bool (!decide (r9 = 0)))) (w' := w1) rfl rfl rfl (x_neq rfl rfl rfl) ?_
  refine wpR_nil ?_
  refine wpC_cond (b := !decide (r9 = 0)) rfl (fun hc10 => ?_) (fun hc10 => ?_)
  · replace h := h.1 hc10
    refine wpC_seq ?_
    refine wpC_cut (fun ρ => ρ 6 = (Value.int .i64 r9) ∧ True) ⟨e6, trivial⟩ ?_
    rintro ρ ⟨e6, -⟩
    refine wpC_region ?_
    refine wpR_val (v := (Value.int .i64 r9)) (w' := w1) rfl rfl rfl (x_move (v := (Value.int .i64 r9)) rfl e6) ?_
    refine wpR_val (v := (Value.int .i64 0)) (w' := w1) rfl rfl rfl (x_assign (v := (Value.int .i64 0)) rfl rfl) ?_
    refine wpR_val (v := (Value.int .i64 r9)) (w' := w1) rfl rfl rfl (x_assign (v := (Value.int .i64 r9)) rfl rfl) ?_
    refine wpR_nil ?_
    refine wpC_ret ?_
    exact ⟨.inl rfl, fun a ha => ⟨_, results_rep2 rfl ha rfl rfl, (0, r9), rfl, h⟩⟩
  · replace h := h.2 hc10
    refine wpC_skip ?_
    refine wpC_seq ?_
    refine wpC_seq ?_
    refine wpC_cut (fun ρ => ρ 0 = (Sl.v p0) ∧ ρ 1 = (Value.int .i64 p1) ∧ True) ⟨e0, e1, trivial⟩ ?_
    rintro ρ ⟨e0, e1, -⟩
    refine wpC_region ?_
    refine wpR_val (v := (Sl.v p0)) (w' := w1) rfl rfl rfl (x_move (v := (Sl.v p0)) rfl e0) ?_
    refine wpR_val (v := (Value.int .i64 (p0.len : Int))) (w' := w1) rfl rfl rfl (x_lenS (s := p0) rfl rfl isSliceT_25) ?_
    refine wpR_val (v := (Value.int .i64 p1)) (w' := w1) rfl rfl rfl (x_move (v := (Value.int .i64 p1)) rfl e1) ?_
    refine wpR_val (v := (Value.bool (decide ((p0.len : Int) < p1)))) (w' := w1) rfl rfl rfl (x_lss rfl rfl rfl) ?_
    refine wpR_nil ?_
    refine wpC_cond (b := decide ((p0.len : Int) < p1)) rfl (fun hc11 => ?_) (fun hc11 => ?_)
    · replace h := h.1 hc11
      refine wpC_seq ?_
      refine wpC_cut (fun ρ => True) trivial ?_
      rintro ρ -
      refine wpC_region ?_
      refine wpR_val (v := (Value.int .i64 0)) (w' := w1) rfl rfl rfl (x_assign (v := (Value.int .i64 0)) rfl rfl) ?_
      refine wpR_val (v := (Value.int .i64 20)) (w' := w1) rfl rfl rfl (x_assign (v := (Value.int .i64 20)) rfl rfl) ?_
      refine wpR_nil ?_
      refine wpC_ret ?_
      exact ⟨.inl rfl, fun a ha => ⟨_, results_rep2 rfl ha rfl rfl, (0, 20), rfl, h⟩⟩
    · replace h := h.2 hc11
      refine wpC_skip ?_
      refine wpC_seq ?_
      refine wpC_seq ?_
      refine wpC_cut (fun ρ => ρ 0 = (Sl.v p0) ∧ ρ 1 = (Value.int .i64 p1) ∧ True) ⟨e0, e1, trivial⟩ ?_
      rintro ρ ⟨e0, e1, -⟩
      refine wpC_region ?_
      refine wpR_val (v := (Sl.v p0)) (w' := w1) rfl rfl rfl (x_move (v := (Sl.v p0)) rfl e0) ?_
      refine wpR_val (v := (Value.int .i64 p1)) (w' := w1) rfl rfl rfl (x_move (v := (Value.int .i64 p1)) rfl e1) ?_
      refine wpR_enter rfl rfl rfl (x_call (vs := [(Sl.v p0), (Value.int .i64 p1)]) rfl rfl (mapl_cons rfl (mapl_cons rfl mapl_nil)) Try.func33 NN_33 NB_33) (Calls.mono h ?_)
      rintro _ w2 ⟨r12, rfl, h⟩
      refine ⟨_, rfl, ?_⟩
      refine wpR_val (v := (Value.bool (!r12))) (w' := w2) rfl rfl rfl (x_not rfl rfl) ?_
      refine wpR_nil ?_
      refine wpC_cond (b := !r12) rfl (fun hc13 => ?_) (fun hc13 => ?_)
      · replace h := h.1 hc13
        refine wpC_seq ?_
        refine wpC_cut (fun ρ => True) trivial ?_
        rintro ρ -
        refine wpC_region ?_
        refine wpR_val (v := (Value.int .i64 0)) (w' := w2) rfl rfl rfl (x_assign (v := (Value.int .i64 0)) rfl rfl) ?_
        refine wpR_val (v := (Value.int .i64 18)) (w' := w2) rfl rfl rfl (x_assign (v := (Value.int .i64 18)) rfl rfl) ?_
        refine wpR_nil ?_
        refine wpC_ret ?_
        exact ⟨.inl rfl, fun a ha => ⟨_, results_rep2 rfl ha rfl rfl, (0, 18), rfl, h⟩⟩
      · replace h := h.2 hc13
        refine wpC_skip ?_
        refine wpC_seq ?_
        refine wpC_cut (fun ρ => ρ 0 = (Sl.v p0) ∧ ρ 1 = (Value.int .i64 p1) ∧ True) ⟨e0, e1, trivial⟩ ?_
        rintro ρ ⟨e0, e1, -⟩
        refine wpC_region ?_
        refine wpR_val (v := (Sl.v p0)) (w' := w2) rfl rfl rfl (x_move (v := (Sl.v p0)) rfl e0) ?_
        refine wpR_val (v := (Value.int .i64 p1)) (w' := w2) rfl rfl rfl (x_move (v := (Value.int .i64 p1)) rfl e1) ?_
        obtain ⟨r14, w3, q14, h⟩ := h
        refine wpR_val (v := (Sl.v r14)) (w' := w3) rfl rfl rfl (x_sliceAt rfl rfl rfl (congrArg some rfl) rfl q14) ?_
        refine wpR_enter rfl rfl rfl (x_call (vs := [(Sl.v r14), (Value.int .i64 0)]) rfl rfl (mapl_cons rfl (mapl_cons rfl mapl_nil)) Try.func39 NN_39 NB_39) (Calls.mono h ?_)
        rintro _ w4 ⟨r15, rfl, h⟩
        refine ⟨_, rfl, ?_⟩
        refine wpR_val (v := (Value.int .i64 r15)) (w' := w4) rfl rfl rfl (x_assign (v := (Value.int .i64 r15)) rfl rfl) ?_
        refine wpR_val (v := (Value.int .i64 0)) (w' := w4) rfl rfl rfl (x_assign (v := (Value.int .i64 0)) rfl rfl) ?_
        refine wpR_nil ?_
        refine wpC_ret ?_
        exact ⟨.inl rfl, fun a ha => ⟨_, results_rep2 rfl ha rfl rfl, (r15, 0), rfl, h⟩⟩

/-- (*vault.Vault).Open -/
def F29 (p0 : Option Addr) (p1 : Int) (p2 : Int) (w0 : World) (K : (ByteArray × Int) → World → Prop) : Prop :=
  jp (fun J9 => cnd (decide (p2 < 0))
    (
    J9 true
    )
    (
    nn p0 fun a11 =>
    ld Sl.v (a11.add 1) w0 fun x12 =>
    J9 (decide ((x12.len : Int) ≤ p2))
    ))
  fun c13 =>
  cnd (c13)
    (
    K (ByteArray.mk #[], 4) w0
    )
    (
    nn p0 fun a15 =>
    ld Sl.v (a15.add 1) w0 fun x16 =>
    ix x16 p2 2 fun p17 =>
    ld (Value.int .i64) (p17.add 0) w0 fun x18 =>
    ld Value.string (p17.add 1) w0 fun x19 =>
    nw 83 #[(Value.int .i64 0), (Value.string (ByteArray.mk #[]))] w0 fun b20 w1 =>
    st (Addr.mk b20 0 none) [(Value.int .i64 x18), (Value.string x19)] w1 fun w2 =>
    ld (Value.int .i64) ((Addr.mk b20 0 none).add 0) w2 fun x22 =>
    jp (fun J23 => cnd (decide (x22 = p1))
      (
      nn p0 fun a25 =>
      ld Sl.v (a25.add 0) w2 fun x26 =>
      ix x26 p1 1 fun p27 =>
      ld Value.bool p27 w2 fun x28 =>
      J23 x28
      )
      (
      J23 false
      ))
    fun c29 =>
    cnd (c29)
      (
      ld Value.string ((Addr.mk b20 0 none).add 1) w2 fun x31 =>
      K (x31, 0) w2
      )
      (
      K (ByteArray.mk #[], 13) w2
      )
    )
set_option maxRecDepth 100000 in
theorem D29 (p0 : Option Addr) (p1 : Int) (p2 : Int) (w0 : World) (K : (ByteArray × Int) → World → Prop) (h : F29 p0 p1 p2 w0 K) : callC Try.prog 29 #[(Value.pointer p0), (Value.int .i64 p1), (Value.int .i64 p2)] (fun (r : ByteArray × Int) => (Value.tuple #[(Value.string r.1), (Value.int .i64 r.2)])) w0 K := by
  unfold F29 at h
  refine calls_of_wpC Try.func29 rfl 42 rfl (by simp) ?_
  intro ρ hρ
  have e0 : ρ 0 = (Value.pointer p0) := hρ 0
  have e1 : ρ 1 = (Value.int .i64 p1) := hρ 1
  have e2 : ρ 2 = (Value.int .i64 p2) := hρ 2
  clear hρ
  refine wpC_seq ?_
  refine wpC_region ?_
  refine wpR_val (v := (Value.string (ByteArray.mk #[]))) (w' := w0) rfl rfl rfl (x_assign (v := (Value.string (ByteArray.mk #[]))) rfl rfl) ?_
  refine wpR_val (v := (Value.int .i64 0)) (w' := w0) rfl rfl rfl (x_assign (v := (Value.int .i64 0)) rfl rfl) ?_
  refine wpR_nil ?_
  refine wpC_seq ?_
  refine wpC_seq ?_
  refine wpC_cut (fun ρ => ρ 0 = (Value.pointer p0) ∧ ρ 1 = (Value.int .i64 p1) ∧ ρ 2 = (Value.int .i64 p2) ∧ True) ⟨e0, e1, e2, trivial⟩ ?_
  rintro ρ ⟨e0, e1, e2, -⟩
  refine wpC_region ?_
  refine wpR_val (v := (Value.int .i64 p2)) (w' := w0) rfl rfl rfl (x_move (v := (Value.int .i64 p2)) rfl e2) ?_
  refine wpR_val (v := (Value.bool (decide (p2 < 0)))) (w' := w0) rfl rfl rfl (x_lss rfl rfl rfl) ?_
  refine wpR_val (v := (Value.bool (decide (p2 < 0)))) (w' := w0) rfl rfl rfl (x_move (v := (Value.bool (decide (p2 < 0)))) rfl rfl) ?_
  obtain ⟨J9, h, hk⟩ := h
  refine wpR_joinJ 8 (fun x ρ => ρ 19 = Value.bool x ∧ ρ 0 = (Value.pointer p0) ∧ ρ 1 = (Value.int .i64 p1) ∧ ρ 2 = (Value.int .i64 p2) ∧ True) (fun x w => J9 x ∧ w0 = w) ?_ ?_
  · clear hk
    rcases Bool.eq_false_or_eq_true (decide (p2 < 0)) with hc10 | hc10
    · replace h := h.1 hc10
      refine wpR_pass (wantN rfl rfl rfl hc10) rfl rfl ?_
      refine wpR_pass (wantN rfl rfl rfl hc10) rfl rfl ?_
      refine wpR_pass (wantN rfl rfl rfl hc10) rfl rfl ?_
      refine wpR_pass (wantN rfl rfl rfl hc10) rfl rfl ?_
      refine wpR_pass (wantN rfl rfl rfl hc10) rfl rfl ?_
      refine wpR_pass (wantN rfl rfl rfl hc10) rfl rfl ?_
      refine wpR_pass (wantN rfl rfl rfl hc10) rfl rfl ?_
      refine wpR_val (v := (Value.bool true)) (w' := w0) rfl rfl rfl (x_pickT (v := (Value.bool true)) rfl rfl hc10 rfl) ?_
      refine wpR_nil ?_
      exact ⟨true, ⟨rfl, e0, e1, e2, trivial⟩, h, rfl⟩
    · replace h := h.2 hc10
      refine wpR_val (v := (Value.int .i64 p2)) (w' := w0) (wantG rfl rfl rfl hc10) rfl rfl (x_move (v := (Value.int .i64 p2)) rfl e2) ?_
      refine wpR_val (v := (Value.pointer p0)) (w' := w0) (wantG rfl rfl rfl hc10) rfl rfl (x_move (v := (Value.pointer p0)) rfl e0) ?_
      obtain ⟨a11, q11, h⟩ := h
      refine wpR_val (v := (Value.pointer (some a11))) (w' := w0) (wantG rfl rfl rfl hc10) rfl rfl (x_nilCheck rfl rfl q11) ?_
      refine wpR_val (v := (Value.pointer (some (a11.add 1)))) (w' := w0) (wantG rfl rfl rfl hc10) rfl rfl (x_fieldAddr rfl rfl FA_81_1) ?_
      obtain ⟨x12, q12, h⟩ := h
      refine wpR_val (v := (Sl.v x12)) (w' := w0) (wantG rfl rfl rfl hc10) rfl rfl (x_load1 rfl rfl SH_79 q12) ?_
      refine wpR_val (v := (Value.int .i64 (x12.len : Int))) (w' := w0) (wantG rfl rfl rfl hc10) rfl rfl (x_lenS (s := x12) rfl rfl isSliceT_79) ?_
      refine wpR_val (v := (Value.bool (decide ((x12.len : Int) ≤ p2)))) (w' := w0) (wantG rfl rfl rfl hc10) rfl rfl (x_geq rfl rfl rfl) ?_
      refine wpR_val (v := (Value.bool (decide ((x12.len : Int) ≤ p2)))) (w' := w0) rfl rfl rfl (x_pickF (v := (Value.bool (decide ((x12.len : Int) ≤ p2)))) rfl rfl hc10 rfl) ?_
      refine wpR_nil ?_
      exact ⟨decide ((x12.len : Int) ≤ p2), ⟨rfl, e0, e1, e2, trivial⟩, h, rfl⟩
  clear h
  rintro c13 ρ wj ⟨e19, e0, e1, e2, -⟩ ⟨h, rfl⟩
  replace h := hk c13 h
  clear hk
  refine wpR_nil ?_
  refine wpC_cond (b := c13) e19 (fun hc14 => ?_) (fun hc14 => ?_)
  · replace h := h.1 hc14
    refine wpC_seq ?_
    refine wpC_region ?_
    refine wpR_val (v := (Value.string (ByteArray.mk #[]))) (w' := w0) rfl rfl rfl (x_assign (v := (Value.string (ByteArray.mk #[]))) rfl rfl) ?_
    refine wpR_val (v := (Value.int .i64 4)) (w' := w0) rfl rfl rfl (x_assign (v := (Value.int .i64 4)) rfl rfl) ?_
    refine wpR_nil ?_
    refine wpC_ret ?_
    exact ⟨.inl rfl, fun a ha => ⟨_, results_rep2 rfl ha rfl rfl, (ByteArray.mk #[], 4), rfl, h⟩⟩
  · replace h := h.2 hc14
    refine wpC_skip ?_
    refine wpC_seq ?_
    refine wpC_seq ?_
    refine wpC_region ?_
    refine wpR_val (v := (Value.pointer p0)) (w' := w0) rfl rfl rfl (x_move (v := (Value.pointer p0)) rfl e0) ?_
    obtain ⟨a15, q15, h⟩ := h
    refine wpR_val (v := (Value.pointer (some a15))) (w' := w0) rfl rfl rfl (x_nilCheck rfl rfl q15) ?_
    refine wpR_val (v := (Value.pointer (some (a15.add 1)))) (w' := w0) rfl rfl rfl (x_fieldAddr rfl rfl FA_81_1) ?_
    obtain ⟨x16, q16, h⟩ := h
    refine wpR_val (v := (Sl.v x16)) (w' := w0) rfl rfl rfl (x_load1 rfl rfl SH_79 q16) ?_
    refine wpR_val (v := (Value.int .i64 p2)) (w' := w0) rfl rfl rfl (x_move (v := (Value.int .i64 p2)) rfl e2) ?_
    obtain ⟨q17, z17, r17, h⟩ := h
    generalize hp17 : z17.add ((p2 : Int).toNat * 2) = p17 at h
    refine wpR_val (v := (Value.pointer (some p17))) (w' := w0) rfl rfl rfl ((x_indexAddr (s := x16) rfl rfl rfl ES_79 q17 r17).trans (by rw [hp17])) ?_
    obtain ⟨x18, q18, x19, q19, h⟩ := h
    refine wpR_val (v := (Value.agg #[(Value.int .i64 x18), (Value.string x19)])) (w' := w0) rfl rfl rfl (x_loadN [(Value.int .i64 x18), (Value.string x19)] rfl rfl SH_83 (CellsAt.out (CellsAt.cons q18 (CellsAt.cons q19 CellsAt.nil)))) ?_
    obtain ⟨b20, hb20⟩ : ∃ u, u = w0.heap.size := ⟨_, rfl⟩
    obtain ⟨w1, hw20⟩ : ∃ u, u = w0.alloc (.cells #[(Value.int .i64 0), (Value.string (ByteArray.mk #[]))] 83) := ⟨_, rfl⟩
    replace h := h b20 w1 hb20 hw20
    refine wpR_val (v := (Value.pointer (some (Addr.mk b20 0 none)))) (w' := w1) rfl rfl rfl ((x_alloc rfl ZV_83).trans (by rw [hb20, hw20]; rfl)) ?_
    obtain ⟨q21, h⟩ := h
    obtain ⟨w2, hw21⟩ : ∃ u, u = setAll w1 (Addr.mk b20 0 none) [(Value.int .i64 x18), (Value.string x19)] 0 := ⟨_, rfl⟩
    replace h := h w2 hw21
    refine wpR_skp (w' := w2) rfl rfl ((x_store (v := (Value.agg #[(Value.int .i64 x18), (Value.string x19)])) rfl rfl rfl SZ_83 (ones (by rfl)) q21).trans (by rw [hw21]; rfl)) ?_
    refine wpR_nil ?_
    refine wpC_seq ?_
    refine wpC_cut (fun ρ => ρ 0 = (Value.pointer p0) ∧ ρ 1 = (Value.int .i64 p1) ∧ ρ 8 = (Value.pointer (some (Addr.mk b20 0 none))) ∧ True) ⟨e0, e1, rfl, trivial⟩ ?_
    rintro ρ ⟨e0, e1, e8, -⟩
    refine wpC_region ?_
    refine wpR_val (v := (Value.pointer (some ((Addr.mk b20 0 none).add 0)))) (w' := w2) rfl rfl rfl (x_fieldAddr rfl e8 FA_83_0) ?_
    obtain ⟨x22, q22, h⟩ := h
    refine wpR_val (v := (Value.int .i64 x22)) (w' := w2) rfl rfl rfl (x_load1 rfl rfl SH_3 q22) ?_
    refine wpR_val (v := (Value.int .i64 p1)) (w' := w2) rfl rfl rfl (x_move (v := (Value.int .i64 p1)) rfl e1) ?_
    refine wpR_val (v := (Value.bool (decide (x22 = p1)))) (w' := w2) rfl rfl rfl (x_eql rfl rfl rfl) ?_
    refine wpR_val (v := (Value.bool (decide (x22 = p1)))) (w' := w2) rfl rfl rfl (x_move (v := (Value.bool (decide (x22 = p1)))) rfl rfl) ?_
    obtain ⟨J23, h, hk⟩ := h
    refine wpR_joinJ 8 (fun x ρ => ρ 39 = Value.bool x ∧ ρ 8 = (Value.pointer (some (Addr.mk b20 0 none))) ∧ True) (fun x w => J23 x ∧ w2 = w) ?_ ?_
    · clear hk
      rcases Bool.eq_false_or_eq_true (decide (x22 = p1)) with hc24 | hc24
      · replace h := h.1 hc24
        refine wpR_val (v := (Value.pointer p0)) (w' := w2) (wantG rfl rfl rfl hc24) rfl rfl (x_move (v := (Value.pointer p0)) rfl e0) ?_
        obtain ⟨a25, q25, h⟩ := h
        refine wpR_val (v := (Value.pointer (some a25))) (w' := w2) (wantG rfl rfl rfl hc24) rfl rfl (x_nilCheck rfl rfl q25) ?_
        refine wpR_val (v := (Value.pointer (some (a25.add 0)))) (w' := w2) (wantG rfl rfl rfl hc24) rfl rfl (x_fieldAddr rfl rfl FA_81_0) ?_
        obtain ⟨x26, q26, h⟩ := h
        refine wpR_val (v := (Sl.v x26)) (w' := w2) (wantG rfl rfl rfl hc24) rfl rfl (x_load1 rfl rfl SH_78 q26) ?_
        refine wpR_val (v := (Value.int .i64 p1)) (w' := w2) (wantG rfl rfl rfl hc24) rfl rfl (x_move (v := (Value.int .i64 p1)) rfl e1) ?_
        obtain ⟨q27, z27, r27, h⟩ := h
        generalize hp27 : z27.add ((p1 : Int).toNat * 1) = p27 at h
        refine wpR_val (v := (Value.pointer (some p27))) (w' := w2) (wantG rfl rfl rfl hc24) rfl rfl ((x_indexAddr (s := x26) rfl rfl rfl ES_78 q27 r27).trans (by rw [hp27])) ?_
        obtain ⟨x28, q28, h⟩ := h
        refine wpR_val (v := (Value.bool x28)) (w' := w2) (wantG rfl rfl rfl hc24) rfl rfl (x_load1 rfl rfl SH_4 q28) ?_
        refine wpR_val (v := (Value.bool x28)) (w' := w2) rfl rfl rfl (x_pickT (v := (Value.bool x28)) rfl rfl hc24 rfl) ?_
        refine wpR_nil ?_
        exact ⟨x28, ⟨rfl, e8, trivial⟩, h, rfl⟩
      · replace h := h.2 hc24
        refine wpR_pass (wantN rfl rfl rfl hc24) rfl rfl ?_
        refine wpR_pass (wantN rfl rfl rfl hc24) rfl rfl ?_
        refine wpR_pass (wantN rfl rfl rfl hc24) rfl rfl ?_
        refine wpR_pass (wantN rfl rfl rfl hc24) rfl rfl ?_
        refine wpR_pass (wantN rfl rfl rfl hc24) rfl rfl ?_
        refine wpR_pass (wantN rfl rfl rfl hc24) rfl rfl ?_
        refine wpR_pass (wantN rfl rfl rfl hc24) rfl rfl ?_
        refine wpR_val (v := (Value.bool false)) (w' := w2) rfl rfl rfl (x_pickF (v := (Value.bool false)) rfl rfl hc24 rfl) ?_
        refine wpR_nil ?_
        exact ⟨false, ⟨rfl, e8, trivial⟩, h, rfl⟩
    clear h
    rintro c29 ρ wj ⟨e39, e8, -⟩ ⟨h, rfl⟩
    replace h := hk c29 h
    clear hk
    refine wpR_nil ?_
    refine wpC_cond (b := c29) e39 (fun hc30 => ?_) (fun hc30 => ?_)
    · replace h := h.1 hc30
      refine wpC_seq ?_
      refine wpC_region ?_
      refine wpR_val (v := (Value.pointer (some ((Addr.mk b20 0 none).add 1)))) (w' := w2) rfl rfl rfl (x_fieldAddr rfl e8 FA_83_1) ?_
      obtain ⟨x31, q31, h⟩ := h
      refine wpR_val (v := (Value.string x31)) (w' := w2) rfl rfl rfl (x_load1 rfl rfl SH_9 q31) ?_
      refine wpR_val (v := (Value.string x31)) (w' := w2) rfl rfl rfl (x_assign (v := (Value.string x31)) rfl rfl) ?_
      refine wpR_val (v := (Value.int .i64 0)) (w' := w2) rfl rfl rfl (x_assign (v := (Value.int .i64 0)) rfl rfl) ?_
      refine wpR_nil ?_
      refine wpC_ret ?_
      exact ⟨.inl rfl, fun a ha => ⟨_, results_rep2 rfl ha rfl rfl, (x31, 0), rfl, h⟩⟩
    · replace h := h.2 hc30
      refine wpC_skip ?_
      refine wpC_seq ?_
      refine wpC_region ?_
      refine wpR_val (v := (Value.string (ByteArray.mk #[]))) (w' := w2) rfl rfl rfl (x_assign (v := (Value.string (ByteArray.mk #[]))) rfl rfl) ?_
      refine wpR_val (v := (Value.int .i64 13)) (w' := w2) rfl rfl rfl (x_assign (v := (Value.int .i64 13)) rfl rfl) ?_
      refine wpR_nil ?_
      refine wpC_ret ?_
      exact ⟨.inl rfl, fun a ha => ⟨_, results_rep2 rfl ha rfl rfl, (ByteArray.mk #[], 13), rfl, h⟩⟩

/-- (*vault.Vault).Destroy -/
def F30 (p0 : Option Addr) (p1 : Int) (w0 : World) (K : Int → World → Prop) : Prop :=
  callC Try.prog 38 #[(Value.pointer p0), (Value.int .i64 p1)] (fun (r : Bool) => (Value.bool r)) w0 fun r9 w1 =>
  cnd (!r9)
    (
    K 4 w1
    )
    (
    nn p0 fun a11 =>
    ld Sl.v (a11.add 0) w1 fun x12 =>
    ix x12 p1 1 fun p13 =>
    ld Value.bool p13 w1 fun x14 =>
    cnd (!x14)
      (
      K 5 w1
      )
      (
      nn p0 fun a16 =>
      ld Sl.v (a16.add 0) w1 fun x17 =>
      ix x17 p1 1 fun p18 =>
      st p18 [(Value.bool false)] w1 fun w2 =>
      nn p0 fun a20 =>
      ld Sl.v (a20.add 1) w2 fun x21 =>
      lp (fun (next22 : Int → World → Prop) l22 w3 =>
        cnd (decide (l22 < (x21.len : Int)))
          (
          jn (fun (J24 : Unit → World → Prop) =>
            nn p0 fun a26 =>
            ld Sl.v (a26.add 1) w3 fun x27 =>
            ix x27 l22 2 fun p28 =>
            ld (Value.int .i64) (p28.add 0) w3 fun x29 =>
            cnd (decide (x29 = p1))
              (
              nn p0 fun a31 =>
              ld Sl.v (a31.add 1) w3 fun x32 =>
              ix x32 l22 2 fun p33 =>
              st (p33.add 1) [(Value.string (ByteArray.mk #[]))] w3 fun w5 =>
              J24 () w5
              )
              (
              J24 () w3
              )
          )
          fun _l25 w4 =>
          next22 (IntKind.i64.wrap (l22 + 1)) w4
          )
          (
          K 0 w3
          )
      ) 0 w2
      )
    )
set_option maxRecDepth 100000 in
theorem D30 (p0 : Option Addr) (p1 : Int) (w0 : World) (K : Int → World → Prop) (h : F30 p0 p1 w0 K) : callC Try.prog 30 #[(Value.pointer p0), (Value.int .i64 p1)] (fun (r : Int) => (Value.int .i64 r)) w0 K := by
  unfold F30 at h
  refine calls_of_wpC Try.func30 rfl 52 rfl (by simp) ?_
  intro ρ hρ
  have e0 : ρ 0 = (Value.pointer p0) := hρ 0
  have e1 : ρ 1 = (Value.int .i64 p1) := hρ 1
  clear hρ
  refine wpC_seq ?_
  refine wpC_region ?_
  refine wpR_val (v := (Value.int .i64 0)) (w' := w0) rfl rfl rfl (x_assign (v := (Value.int .i64 0)) rfl rfl) ?_
  refine wpR_nil ?_
  refine wpC_seq ?_
  refine wpC_block ?_
  refine wpC_seq ?_
  refine wpC_cut (fun ρ => ρ 0 = (Value.pointer p0) ∧ ρ 1 = (Value.int .i64 p1) ∧ True) ⟨e0, e1, trivial⟩ ?_
  rintro ρ ⟨e0, e1, -⟩
  refine wpC_region ?_
  refine wpR_val (v := (Value.pointer p0)) (w' := w0) rfl rfl rfl (x_move (v := (Value.pointer p0)) rfl e0) ?_
  refine wpR_val (v := (Value.int .i64 p1)) (w' := w0) rfl rfl rfl (x_move (v := (Value.int .i64 p1)) rfl e1) ?_
  refine wpR_enter rfl rfl rfl (x_call (vs := [(Value.pointer p0), (Value.int .i64 p1)]) rfl rfl (mapl_cons rfl (mapl_cons rfl mapl_nil)) Try.func38 NN_38 NB_38) (Calls.mono h ?_)
  rintro _ w1 ⟨r9, rfl, h⟩
  refine ⟨_, rfl, ?_⟩
  refine wpR_val (v := (Value.bool (!r9))) (w' := w1) rfl rfl rfl (x_not rfl rfl) ?_
  refine wpR_val (v := (Value.bool (!r9))) (w' := w1) rfl rfl rfl (x_assign (v := (Value.bool (!r9))) rfl rfl) ?_
  refine wpR_nil ?_
  refine wpC_cond (b := !r9) rfl (fun hc10 => ?_) (fun hc10 => ?_)
  · replace h := h.1 hc10
    refine wpC_seq ?_
    refine wpC_cut (fun ρ => True) trivial ?_
    rintro ρ -
    refine wpC_region ?_
    refine wpR_val (v := (Value.int .i64 4)) (w' := w1) rfl rfl rfl (x_assign (v := (Value.int .i64 4)) rfl rfl) ?_
    refine wpR_nil ?_
    refine wpC_ret ?_
    exact ⟨.inl rfl, fun a ha => ⟨_, results_rep1 rfl ha rfl, 4, rfl, h⟩⟩
  · replace h := h.2 hc10
    refine wpC_seq ?_
    refine wpC_cut (fun ρ => ρ 0 = (Value.pointer p0) ∧ ρ 1 = (Value.int .i64 p1) ∧ True) ⟨e0, e1, trivial⟩ ?_
    rintro ρ ⟨e0, e1, -⟩
    refine wpC_region ?_
    refine wpR_val (v := (Value.pointer p0)) (w' := w1) rfl rfl rfl (x_move (v := (Value.pointer p0)) rfl e0) ?_
    obtain ⟨a11, q11, h⟩ := h
    refine wpR_val (v := (Value.pointer (some a11))) (w' := w1) rfl rfl rfl (x_nilCheck rfl rfl q11) ?_
    refine wpR_val (v := (Value.pointer (some (a11.add 0)))) (w' := w1) rfl rfl rfl (x_fieldAddr rfl rfl FA_81_0) ?_
    obtain ⟨x12, q12, h⟩ := h
    refine wpR_val (v := (Sl.v x12)) (w' := w1) rfl rfl rfl (x_load1 rfl rfl SH_78 q12) ?_
    refine wpR_val (v := (Value.int .i64 p1)) (w' := w1) rfl rfl rfl (x_move (v := (Value.int .i64 p1)) rfl e1) ?_
    obtain ⟨q13, z13, r13, h⟩ := h
    generalize hp13 : z13.add ((p1 : Int).toNat * 1) = p13 at h
    refine wpR_val (v := (Value.pointer (some p13))) (w' := w1) rfl rfl rfl ((x_indexAddr (s := x12) rfl rfl rfl ES_78 q13 r13).trans (by rw [hp13])) ?_
    obtain ⟨x14, q14, h⟩ := h
    refine wpR_val (v := (Value.bool x14)) (w' := w1) rfl rfl rfl (x_load1 rfl rfl SH_4 q14) ?_
    refine wpR_val (v := (Value.bool (!x14))) (w' := w1) rfl rfl rfl (x_not rfl rfl) ?_
    refine wpR_val (v := (Value.bool (!x14))) (w' := w1) rfl rfl rfl (x_assign (v := (Value.bool (!x14))) rfl rfl) ?_
    refine wpR_nil ?_
    refine wpC_cond (b := !x14) rfl (fun hc15 => ?_) (fun hc15 => ?_)
    · replace h := h.1 hc15
      refine wpC_seq ?_
      refine wpC_cut (fun ρ => True) trivial ?_
      rintro ρ -
      refine wpC_region ?_
      refine wpR_val (v := (Value.int .i64 5)) (w' := w1) rfl rfl rfl (x_assign (v := (Value.int .i64 5)) rfl rfl) ?_
      refine wpR_nil ?_
      refine wpC_ret ?_
      exact ⟨.inl rfl, fun a ha => ⟨_, results_rep1 rfl ha rfl, 5, rfl, h⟩⟩
    · replace h := h.2 hc15
      refine wpC_skip ?_
      refine wpC_seq ?_
      refine wpC_cut (fun ρ => ρ 0 = (Value.pointer p0) ∧ ρ 1 = (Value.int .i64 p1) ∧ True) ⟨e0, e1, trivial⟩ ?_
      rintro ρ ⟨e0, e1, -⟩
      refine wpC_region ?_
      refine wpR_val (v := (Value.pointer p0)) (w' := w1) rfl rfl rfl (x_move (v := (Value.pointer p0)) rfl e0) ?_
      obtain ⟨a16, q16, h⟩ := h
      refine wpR_val (v := (Value.pointer (some a16))) (w' := w1) rfl rfl rfl (x_nilCheck rfl rfl q16) ?_
      refine wpR_val (v := (Value.pointer (some (a16.add 0)))) (w' := w1) rfl rfl rfl (x_fieldAddr rfl rfl FA_81_0) ?_
      obtain ⟨x17, q17, h⟩ := h
      refine wpR_val (v := (Sl.v x17)) (w' := w1) rfl rfl rfl (x_load1 rfl rfl SH_78 q17) ?_
      refine wpR_val (v := (Value.int .i64 p1)) (w' := w1) rfl rfl rfl (x_move (v := (Value.int .i64 p1)) rfl e1) ?_
      obtain ⟨q18, z18, r18, h⟩ := h
      generalize hp18 : z18.add ((p1 : Int).toNat * 1) = p18 at h
      refine wpR_val (v := (Value.pointer (some p18))) (w' := w1) rfl rfl rfl ((x_indexAddr (s := x17) rfl rfl rfl ES_78 q18 r18).trans (by rw [hp18])) ?_
      obtain ⟨q19, h⟩ := h
      obtain ⟨w2, hw19⟩ : ∃ u, u = setAll w1 p18 [(Value.bool false)] 0 := ⟨_, rfl⟩
      replace h := h w2 hw19
      refine wpR_skp (w' := w2) rfl rfl ((x_store (v := (Value.bool false)) rfl rfl rfl SZ_4 (ones (by rfl)) q19).trans (by rw [hw19]; rfl)) ?_
      refine wpR_nil ?_
      refine wpC_seq ?_
      refine wpC_seq ?_
      refine wpC_cut (fun ρ => ρ 0 = (Value.pointer p0) ∧ ρ 1 = (Value.int .i64 p1) ∧ True) ⟨e0, e1, trivial⟩ ?_
      rintro ρ ⟨e0, e1, -⟩
      refine wpC_region ?_
      refine wpR_val (v := (Value.pointer p0)) (w' := w2) rfl rfl rfl (x_move (v := (Value.pointer p0)) rfl e0) ?_
      obtain ⟨a20, q20, h⟩ := h
      refine wpR_val (v := (Value.pointer (some a20))) (w' := w2) rfl rfl rfl (x_nilCheck rfl rfl q20) ?_
      refine wpR_val (v := (Value.pointer (some (a20.add 1)))) (w' := w2) rfl rfl rfl (x_fieldAddr rfl rfl FA_81_1) ?_
      obtain ⟨x21, q21, h⟩ := h
      refine wpR_val (v := (Sl.v x21)) (w' := w2) rfl rfl rfl (x_load1 rfl rfl SH_79 q21) ?_
      refine wpR_val (v := (Value.int .i64 (x21.len : Int))) (w' := w2) rfl rfl rfl (x_lenS (s := x21) rfl rfl isSliceT_79) ?_
      refine wpR_val (v := (Value.int .i64 0)) (w' := w2) rfl rfl rfl (x_move (v := (Value.int .i64 0)) rfl rfl) ?_
      refine wpR_nil ?_
      refine wpC_block ?_
      obtain ⟨I22, μ22, hI22, hr22⟩ := h
      refine wpC_loop (fun (x : Int) ρ => ρ 31 = (Value.int .i64 x) ∧ ρ 0 = (Value.pointer p0) ∧ ρ 1 = (Value.int .i64 p1) ∧ ρ 30 = (Value.int .i64 (x21.len : Int)) ∧ True) I22 μ22 0 ⟨rfl, e0, e1, rfl, trivial⟩ hI22 ?_
      rintro l22 ρ w3 ⟨e31, e0, e1, e30, -⟩ h
      replace h := hr22 l22 w3 h
      clear hr22 hI22
      refine wpC_seq ?_
      refine wpC_region ?_
      refine wpR_val (v := (Value.bool (decide (l22 < (x21.len : Int))))) (w' := w3) rfl rfl rfl (x_lss rfl e31 e30) ?_
      refine wpR_nil ?_
      refine wpC_seq ?_
      refine wpC_cond (b := decide (l22 < (x21.len : Int))) rfl (fun hc23 => ?_) (fun hc23 => ?_)
      · replace h := h.1 hc23
        refine wpC_skip ?_
        obtain ⟨J24, h, hk⟩ := h
        refine wpC_seqJ (fun (x : Unit) ρ => ρ 0 = (Value.pointer p0) ∧ ρ 1 = (Value.int .i64 p1) ∧ ρ 30 = (Value.int .i64 (x21.len : Int)) ∧ ρ 31 = (Value.int .i64 l22) ∧ True) J24 ?_ ?_
        · clear hk
          refine wpC_block ?_
          refine wpC_seq ?_
          refine wpC_cut (fun ρ => ρ 0 = (Value.pointer p0) ∧ ρ 1 = (Value.int .i64 p1) ∧ ρ 30 = (Value.int .i64 (x21.len : Int)) ∧ ρ 31 = (Value.int .i64 l22) ∧ True) ⟨e0, e1, e30, e31, trivial⟩ ?_
          rintro ρ ⟨e0, e1, e30, e31, -⟩
          refine wpC_region ?_
          refine wpR_val (v := (Value.int .i64 l22)) (w' := w3) rfl rfl rfl (x_move (v := (Value.int .i64 l22)) rfl e31) ?_
          refine wpR_val (v := (Value.int .i64 l22)) (w' := w3) rfl rfl rfl (x_assign (v := (Value.int .i64 l22)) rfl rfl) ?_
          refine wpR_nil ?_
          refine wpC_seq ?_
          refine wpC_cut (fun ρ => ρ 0 = (Value.pointer p0) ∧ ρ 1 = (Value.int .i64 p1) ∧ ρ 5 = (Value.int .i64 l22) ∧ ρ 30 = (Value.int .i64 (x21.len : Int)) ∧ ρ 31 = (Value.int .i64 l22) ∧ True) ⟨e0, e1, rfl, e30, e31, trivial⟩ ?_
          rintro ρ ⟨e0, e1, e5, e30, e31, -⟩
          refine wpC_region ?_
          refine wpR_val (v := (Value.pointer p0)) (w' := w3) rfl rfl rfl (x_move (v := (Value.pointer p0)) rfl e0) ?_
          obtain ⟨a26, q26, h⟩ := h
          refine wpR_val (v := (Value.pointer (some a26))) (w' := w3) rfl rfl rfl (x_nilCheck rfl rfl q26) ?_
          refine wpR_val (v := (Value.pointer (some (a26.add 1)))) (w' := w3) rfl rfl rfl (x_fieldAddr rfl rfl FA_81_1) ?_
          obtain ⟨x27, q27, h⟩ := h
          refine wpR_val (v := (Sl.v x27)) (w' := w3) rfl rfl rfl (x_load1 rfl rfl SH_79 q27) ?_
          refine wpR_val (v := (Value.int .i64 l22)) (w' := w3) rfl rfl rfl (x_move (v := (Value.int .i64 l22)) rfl e5) ?_
          obtain ⟨q28, z28, r28, h⟩ := h
          generalize hp28 : z28.add ((l22 : Int).toNat * 2) = p28 at h
          refine wpR_val (v := (Value.pointer (some p28))) (w' := w3) rfl rfl rfl ((x_indexAddr (s := x27) rfl rfl rfl ES_79 q28 r28).trans (by rw [hp28])) ?_
          refine wpR_val (v := (Value.pointer (some (p28.add 0)))) (w' := w3) rfl rfl rfl (x_fieldAddr rfl rfl FA_83_0) ?_
          obtain ⟨x29, q29, h⟩ := h
          refine wpR_val (v := (Value.int .i64 x29)) (w' := w3) rfl rfl rfl (x_load1 rfl rfl SH_3 q29) ?_
          refine wpR_val (v := (Value.int .i64 p1)) (w' := w3) rfl rfl rfl (x_move (v := (Value.int .i64 p1)) rfl e1) ?_
          refine wpR_val (v := (Value.bool (decide (x29 = p1)))) (w' := w3) rfl rfl rfl (x_eql rfl rfl rfl) ?_
          refine wpR_nil ?_
          refine wpC_cond (b := decide (x29 = p1)) rfl (fun hc30 => ?_) (fun hc30 => ?_)
          · replace h := h.1 hc30
            refine wpC_cut (fun ρ => ρ 0 = (Value.pointer p0) ∧ ρ 1 = (Value.int .i64 p1) ∧ ρ 5 = (Value.int .i64 l22) ∧ ρ 30 = (Value.int .i64 (x21.len : Int)) ∧ ρ 31 = (Value.int .i64 l22) ∧ True) ⟨e0, e1, e5, e30, e31, trivial⟩ ?_
            rintro ρ ⟨e0, e1, e5, e30, e31, -⟩
            refine wpC_region ?_
            refine wpR_val (v := (Value.pointer p0)) (w' := w3) rfl rfl rfl (x_move (v := (Value.pointer p0)) rfl e0) ?_
            obtain ⟨a31, q31, h⟩ := h
            refine wpR_val (v := (Value.pointer (some a31))) (w' := w3) rfl rfl rfl (x_nilCheck rfl rfl q31) ?_
            refine wpR_val (v := (Value.pointer (some (a31.add 1)))) (w' := w3) rfl rfl rfl (x_fieldAddr rfl rfl FA_81_1) ?_
            obtain ⟨x32, q32, h⟩ := h
            refine wpR_val (v := (Sl.v x32)) (w' := w3) rfl rfl rfl (x_load1 rfl rfl SH_79 q32) ?_
            refine wpR_val (v := (Value.int .i64 l22)) (w' := w3) rfl rfl rfl (x_move (v := (Value.int .i64 l22)) rfl e5) ?_
            obtain ⟨q33, z33, r33, h⟩ := h
            generalize hp33 : z33.add ((l22 : Int).toNat * 2) = p33 at h
            refine wpR_val (v := (Value.pointer (some p33))) (w' := w3) rfl rfl rfl ((x_indexAddr (s := x32) rfl rfl rfl ES_79 q33 r33).trans (by rw [hp33])) ?_
            refine wpR_val (v := (Value.pointer (some (p33.add 1)))) (w' := w3) rfl rfl rfl (x_fieldAddr rfl rfl FA_83_1) ?_
            obtain ⟨q34, h⟩ := h
            obtain ⟨w5, hw34⟩ : ∃ u, u = setAll w3 (p33.add 1) [(Value.string (ByteArray.mk #[]))] 0 := ⟨_, rfl⟩
            replace h := h w5 hw34
            refine wpR_skp (w' := w5) rfl rfl ((x_store (v := (Value.string (ByteArray.mk #[]))) rfl rfl rfl SZ_9 (ones (by rfl)) q34).trans (by rw [hw34]; rfl)) ?_
            refine wpR_nil ?_
            exact ⟨(), ⟨e0, e1, e30, e31, trivial⟩, h⟩
          · replace h := h.2 hc30
            refine wpC_skip ?_
            exact ⟨(), ⟨e0, e1, e30, e31, trivial⟩, h⟩
        clear h
        rintro l25 ρ w4 ⟨e0, e1, e30, e31, -⟩ h
        replace h := hk l25 w4 h
        clear hk
        refine wpC_region ?_
        refine wpR_val (v := (Value.int .i64 (IntKind.i64.wrap (l22 + 1)))) (w' := w4) rfl rfl rfl (x_add rfl e31 rfl) ?_
        refine wpR_val (v := (Value.int .i64 (IntKind.i64.wrap (l22 + 1)))) (w' := w4) rfl rfl rfl (x_move (v := (Value.int .i64 (IntKind.i64.wrap (l22 + 1)))) rfl rfl) ?_
        refine wpR_nil ?_
        exact ⟨IntKind.i64.wrap (l22 + 1), ⟨rfl, e0, e1, e30, trivial⟩, h⟩
      · replace h := h.2 hc23
        refine wpC_exit ?_
        refine wpC_seq ?_
        refine wpC_cut (fun ρ => True) trivial ?_
        rintro ρ -
        refine wpC_region ?_
        refine wpR_val (v := (Value.int .i64 0)) (w' := w3) rfl rfl rfl (x_assign (v := (Value.int .i64 0)) rfl rfl) ?_
        refine wpR_nil ?_
        refine wpC_ret ?_
        exact ⟨.inl rfl, fun a ha => ⟨_, results_rep1 rfl ha rfl, 0, rfl, h⟩⟩

/-- share.valid -/
def F31 (p0 : Sl) (p1 : Int) (w0 : World) (K : Int → World → Prop) : Prop :=
  cnd ((decide (p1 < 1)) || (decide (20 < p1)))
    (
    K 1 w0
    )
    (
    rn Try.prog (Instr.makeMap 85 none) (fun (r : (Option Nat)) => (Value.map r)) w0 fun r12 w1 =>
    lp (fun (next13 : (Bool × Int) → World → Prop) l13 w2 =>
      cnd (decide (l13.2 < (p0.len : Int)))
        (
        ix p0 l13.2 2 fun p15 =>
        ld (Value.int .i64) (p15.add 0) w2 fun x16 =>
        ld (Value.int .i64) (p15.add 1) w2 fun x17 =>
        nw 56 #[(Value.int .i64 0), (Value.int .i64 0)] w2 fun b18 w3 =>
        st (Addr.mk b18 0 none) [(Value.int .i64 x16), (Value.int .i64 x17)] w3 fun w4 =>
        ld (Value.int .i64) ((Addr.mk b18 0 none).add 0) w4 fun x20 =>
        jp (fun J21 => cnd (decide (x20 < 1))
          (
          J21 true
          )
          (
          ld (Value.int .i64) ((Addr.mk b18 0 none).add 0) w4 fun x23 =>
          J21 (decide (20 < x23))
          ))
        fun c24 =>
        jn (fun J25 => cnd (c24)
          (
          J25 true w4
          )
          (
          ld (Value.int .i64) ((Addr.mk b18 0 none).add 1) w4 fun x27 =>
          callC Try.prog 32 #[(Value.int .i64 x27)] (fun (r : Bool) => (Value.bool r)) w4 fun r28 w5 =>
          J25 (!r28) w5
          ))
        fun c29 w6 =>
        cnd (c29)
          (
          K 1 w6
          )
          (
          jn (fun J31 => cnd (l13.1)
            (
            J31 true w6
            )
            (
            ld (Value.int .i64) ((Addr.mk b18 0 none).add 0) w6 fun x33 =>
            rn Try.prog (Instr.lookup 85 (Value.map r12) (Value.int .i64 x33) false) (fun (r : Bool) => (Value.bool r)) w6 fun r34 w7 =>
            J31 r34 w7
            ))
          fun c35 w8 =>
          ld (Value.int .i64) ((Addr.mk b18 0 none).add 0) w8 fun x36 =>
          rn0 Try.prog (Instr.mapUpdate 85 (Value.map r12) (Value.int .i64 x36) (Value.bool true)) w8 fun w9 =>
          next13 (c35, IntKind.i64.wrap (l13.2 + 1)) w9
          )
        )
        (
        cnd (l13.1)
          (
          K 5 w2
          )
          (
          K 0 w2
          )
        )
    ) (false, 0) w1
    )
set_option maxRecDepth 100000 in
theorem D31 (p0 : Sl) (p1 : Int) (w0 : World) (K : Int → World → Prop) (h : F31 p0 p1 w0 K) : callC Try.prog 31 #[(Sl.v p0), (Value.int .i64 p1)] (fun (r : Int) => (Value.int .i64 r)) w0 K := by
  unfold F31 at h
  refine calls_of_wpC Try.func31 rfl 48 rfl (by simp) ?_
  intro ρ hρ
  have e0 : ρ 0 = (Sl.v p0) := hρ 0
  have e1 : ρ 1 = (Value.int .i64 p1) := hρ 1
  clear hρ
  refine wpC_seq ?_
  refine wpC_region ?_
  refine wpR_val (v := (Value.int .i64 0)) (w' := w0) rfl rfl rfl (x_assign (v := (Value.int .i64 0)) rfl rfl) ?_
  refine wpR_nil ?_
  refine wpC_seq ?_
  refine wpC_seq ?_
  refine wpC_cut (fun ρ => ρ 0 = (Sl.v p0) ∧ ρ 1 = (Value.int .i64 p1) ∧ True) ⟨e0, e1, trivial⟩ ?_
  rintro ρ ⟨e0, e1, -⟩
  refine wpC_region ?_
  refine wpR_val (v := (Value.int .i64 p1)) (w' := w0) rfl rfl rfl (x_move (v := (Value.int .i64 p1)) rfl e1) ?_
  refine wpR_val (v := (Value.bool (decide (p1 < 1)))) (w' := w0) rfl rfl rfl (x_lss rfl rfl rfl) ?_
  refine wpR_val (v := (Value.bool (decide (p1 < 1)))) (w' := w0) rfl rfl rfl (x_move (v := (Value.bool (decide (p1 < 1)))) rfl rfl) ?_
  refine wpR_joinJ 3 (fun (_ : Unit) ρ => ρ 14 = Value.bool ((decide (p1 < 1)) || (decide (20 < p1))) ∧ ρ 0 = (Sl.v p0) ∧ True) (fun _ w => w0 = w) ?_ ?_
  · clear h
    rcases Bool.eq_false_or_eq_true (decide (p1 < 1)) with hc10 | hc10
    · skip
      refine wpR_pass (wantN rfl rfl rfl hc10) rfl rfl ?_
      refine wpR_pass (wantN rfl rfl rfl hc10) rfl rfl ?_
      refine wpR_val (v := (Value.bool true)) (w' := w0) rfl rfl rfl (x_pickT (v := (Value.bool true)) rfl rfl hc10 rfl) ?_
      refine wpR_nil ?_
      exact ⟨(), ⟨(by rw [hc10]; rfl), e0, trivial⟩, rfl⟩
    · skip
      refine wpR_val (v := (Value.int .i64 p1)) (w' := w0) (wantG rfl rfl rfl hc10) rfl rfl (x_move (v := (Value.int .i64 p1)) rfl e1) ?_
      refine wpR_val (v := (Value.bool (decide (20 < p1)))) (w' := w0) (wantG rfl rfl rfl hc10) rfl rfl (x_gtr rfl rfl rfl) ?_
      refine wpR_val (v := (Value.bool (decide (20 < p1)))) (w' := w0) rfl rfl rfl (x_pickF (v := (Value.bool (decide (20 < p1)))) rfl rfl hc10 rfl) ?_
      refine wpR_nil ?_
      exact ⟨(), ⟨(by rw [hc10]; rfl), e0, trivial⟩, rfl⟩
  rintro _ ρ wj ⟨e14, e0, -⟩ rfl
  refine wpR_nil ?_
  refine wpC_cond (b := (decide (p1 < 1)) || (decide (20 < p1))) e14 (fun hc11 => ?_) (fun hc11 => ?_)
  · replace h := h.1 hc11
    refine wpC_seq ?_
    refine wpC_region ?_
    refine wpR_val (v := (Value.int .i64 1)) (w' := w0) rfl rfl rfl (x_assign (v := (Value.int .i64 1)) rfl rfl) ?_
    refine wpR_nil ?_
    refine wpC_ret ?_
    exact ⟨.inl rfl, fun a ha => ⟨_, results_rep1 rfl ha rfl, 1, rfl, h⟩⟩
  · replace h := h.2 hc11
    refine wpC_skip ?_
    refine wpC_seq ?_
    refine wpC_region ?_
    obtain ⟨r12, w1, q12, h⟩ := h
    refine wpR_val (v := (Value.map r12)) (w' := w1) rfl rfl rfl (x_makeMap rfl rfl q12) ?_
    refine wpR_val (v := (Value.map r12)) (w' := w1) rfl rfl rfl (x_assign (v := (Value.map r12)) rfl rfl) ?_
    refine wpR_nil ?_
    refine wpC_seq ?_
    refine wpC_cut (fun ρ => ρ 0 = (Sl.v p0) ∧ ρ 5 = (Value.map r12) ∧ True) ⟨e0, rfl, trivial⟩ ?_
    rintro ρ ⟨e0, e5, -⟩
    refine wpC_region ?_
    refine wpR_val (v := (Value.bool false)) (w' := w1) rfl rfl rfl (x_assign (v := (Value.bool false)) rfl rfl) ?_
    refine wpR_nil ?_
    refine wpC_seq ?_
    refine wpC_seq ?_
    refine wpC_cut (fun ρ => ρ 0 = (Sl.v p0) ∧ ρ 5 = (Value.map r12) ∧ ρ 6 = (Value.bool false) ∧ True) ⟨e0, e5, rfl, trivial⟩ ?_
    rintro ρ ⟨e0, e5, e6, -⟩
    refine wpC_region ?_
    refine wpR_val (v := (Sl.v p0)) (w' := w1) rfl rfl rfl (x_move (v := (Sl.v p0)) rfl e0) ?_
    refine wpR_val (v := (Value.int .i64 (p0.len : Int))) (w' := w1) rfl rfl rfl (x_lenS (s := p0) rfl rfl isSliceT_25) ?_
    refine wpR_val (v := (Value.int .i64 0)) (w' := w1) rfl rfl rfl (x_move (v := (Value.int .i64 0)) rfl rfl) ?_
    refine wpR_nil ?_
    refine wpC_block ?_
    obtain ⟨I13, μ13, hI13, hr13⟩ := h
    refine wpC_loop (fun (x : Bool × Int) ρ => ρ 6 = (Value.bool x.1) ∧ ρ 18 = (Value.int .i64 x.2) ∧ ρ 5 = (Value.map r12) ∧ ρ 16 = (Sl.v p0) ∧ ρ 17 = (Value.int .i64 (p0.len : Int)) ∧ True) I13 μ13 (false, 0) ⟨e6, rfl, e5, rfl, rfl, trivial⟩ hI13 ?_
    rintro l13 ρ w2 ⟨e6, e18, e5, e16, e17, -⟩ h
    replace h := hr13 l13 w2 h
    clear hr13 hI13
    refine wpC_seq ?_
    refine wpC_region ?_
    refine wpR_val (v := (Value.bool (decide (l13.2 < (p0.len : Int))))) (w' := w2) rfl rfl rfl (x_lss rfl e18 e17) ?_
    refine wpR_nil ?_
    refine wpC_seq ?_
    refine wpC_cond (b := decide (l13.2 < (p0.len : Int))) rfl (fun hc14 => ?_) (fun hc14 => ?_)
    · replace h := h.1 hc14
      refine wpC_skip ?_
      refine wpC_seq ?_
      refine wpC_block ?_
      refine wpC_seq ?_
      refine wpC_cut (fun ρ => ρ 5 = (Value.map r12) ∧ ρ 6 = (Value.bool l13.1) ∧ ρ 16 = (Sl.v p0) ∧ ρ 17 = (Value.int .i64 (p0.len : Int)) ∧ ρ 18 = (Value.int .i64 l13.2) ∧ True) ⟨e5, e6, e16, e17, e18, trivial⟩ ?_
      rintro ρ ⟨e5, e6, e16, e17, e18, -⟩
      refine wpC_region ?_
      obtain ⟨q15, z15, r15, h⟩ := h
      generalize hp15 : z15.add ((l13.2 : Int).toNat * 2) = p15 at h
      refine wpR_val (v := (Value.pointer (some p15))) (w' := w2) rfl rfl rfl ((x_indexAddr (s := p0) rfl e16 e18 ES_25 q15 r15).trans (by rw [hp15])) ?_
      obtain ⟨x16, q16, x17, q17, h⟩ := h
      refine wpR_val (v := (Value.agg #[(Value.int .i64 x16), (Value.int .i64 x17)])) (w' := w2) rfl rfl rfl (x_loadN [(Value.int .i64 x16), (Value.int .i64 x17)] rfl rfl SH_56 (CellsAt.out (CellsAt.cons q16 (CellsAt.cons q17 CellsAt.nil)))) ?_
      obtain ⟨b18, hb18⟩ : ∃ u, u = w2.heap.size := ⟨_, rfl⟩
      obtain ⟨w3, hw18⟩ : ∃ u, u = w2.alloc (.cells #[(Value.int .i64 0), (Value.int .i64 0)] 56) := ⟨_, rfl⟩
      replace h := h b18 w3 hb18 hw18
      refine wpR_val (v := (Value.pointer (some (Addr.mk b18 0 none)))) (w' := w3) rfl rfl rfl ((x_alloc rfl ZV_56).trans (by rw [hb18, hw18]; rfl)) ?_
      obtain ⟨q19, h⟩ := h
      obtain ⟨w4, hw19⟩ : ∃ u, u = setAll w3 (Addr.mk b18 0 none) [(Value.int .i64 x16), (Value.int .i64 x17)] 0 := ⟨_, rfl⟩
      replace h := h w4 hw19
      refine wpR_skp (w' := w4) rfl rfl ((x_store (v := (Value.agg #[(Value.int .i64 x16), (Value.int .i64 x17)])) rfl rfl rfl SZ_56 (ones (by rfl)) q19).trans (by rw [hw19]; rfl)) ?_
      refine wpR_nil ?_
      refine wpC_seq ?_
      refine wpC_seq ?_
      refine wpC_cut (fun ρ => ρ 5 = (Value.map r12) ∧ ρ 6 = (Value.bool l13.1) ∧ ρ 8 = (Value.pointer (some (Addr.mk b18 0 none))) ∧ ρ 16 = (Sl.v p0) ∧ ρ 17 = (Value.int .i64 (p0.len : Int)) ∧ ρ 18 = (Value.int .i64 l13.2) ∧ True) ⟨e5, e6, rfl, e16, e17, e18, trivial⟩ ?_
      rintro ρ ⟨e5, e6, e8, e16, e17, e18, -⟩
      refine wpC_region ?_
      refine wpR_val (v := (Value.pointer (some ((Addr.mk b18 0 none).add 0)))) (w' := w4) rfl rfl rfl (x_fieldAddr rfl e8 FA_56_0) ?_
      obtain ⟨x20, q20, h⟩ := h
      refine wpR_val (v := (Value.int .i64 x20)) (w' := w4) rfl rfl rfl (x_load1 rfl rfl SH_3 q20) ?_
      refine wpR_val (v := (Value.bool (decide (x20 < 1)))) (w' := w4) rfl rfl rfl (x_lss rfl rfl rfl) ?_
      refine wpR_val (v := (Value.bool (decide (x20 < 1)))) (w' := w4) rfl rfl rfl (x_move (v := (Value.bool (decide (x20 < 1)))) rfl rfl) ?_
      obtain ⟨J21, h, hk⟩ := h
      refine wpR_joinJ 4 (fun x ρ => ρ 29 = Value.bool x ∧ ρ 5 = (Value.map r12) ∧ ρ 6 = (Value.bool l13.1) ∧ ρ 8 = (Value.pointer (some (Addr.mk b18 0 none))) ∧ ρ 16 = (Sl.v p0) ∧ ρ 17 = (Value.int .i64 (p0.len : Int)) ∧ ρ 18 = (Value.int .i64 l13.2) ∧ True) (fun x w => J21 x ∧ w4 = w) ?_ ?_
      · clear hk
        rcases Bool.eq_false_or_eq_true (decide (x20 < 1)) with hc22 | hc22
        · replace h := h.1 hc22
          refine wpR_pass (wantN rfl rfl rfl hc22) rfl rfl ?_
          refine wpR_pass (wantN rfl rfl rfl hc22) rfl rfl ?_
          refine wpR_pass (wantN rfl rfl rfl hc22) rfl rfl ?_
          refine wpR_val (v := (Value.bool true)) (w' := w4) rfl rfl rfl (x_pickT (v := (Value.bool true)) rfl rfl hc22 rfl) ?_
          refine wpR_nil ?_
          exact ⟨true, ⟨rfl, e5, e6, e8, e16, e17, e18, trivial⟩, h, rfl⟩
        · replace h := h.2 hc22
          refine wpR_val (v := (Value.pointer (some ((Addr.mk b18 0 none).add 0)))) (w' := w4) (wantG rfl rfl rfl hc22) rfl rfl (x_fieldAddr rfl e8 FA_56_0) ?_
          obtain ⟨x23, q23, h⟩ := h
          refine wpR_val (v := (Value.int .i64 x23)) (w' := w4) (wantG rfl rfl rfl hc22) rfl rfl (x_load1 rfl rfl SH_3 q23) ?_
          refine wpR_val (v := (Value.bool (decide (20 < x23)))) (w' := w4) (wantG rfl rfl rfl hc22) rfl rfl (x_gtr rfl rfl rfl) ?_
          refine wpR_val (v := (Value.bool (decide (20 < x23)))) (w' := w4) rfl rfl rfl (x_pickF (v := (Value.bool (decide (20 < x23)))) rfl rfl hc22 rfl) ?_
          refine wpR_nil ?_
          exact ⟨decide (20 < x23), ⟨rfl, e5, e6, e8, e16, e17, e18, trivial⟩, h, rfl⟩
      clear h
      rintro c24 ρ wj ⟨e29, e5, e6, e8, e16, e17, e18, -⟩ ⟨h, rfl⟩
      replace h := hk c24 h
      clear hk
      refine wpR_val (v := (Value.bool c24)) (w' := w4) rfl rfl rfl (x_move (v := (Value.bool c24)) rfl e29) ?_
      obtain ⟨J25, h, hk⟩ := h
      refine wpR_joinJ 5 (fun x ρ => ρ 35 = Value.bool x ∧ ρ 5 = (Value.map r12) ∧ ρ 6 = (Value.bool l13.1) ∧ ρ 8 = (Value.pointer (some (Addr.mk b18 0 none))) ∧ ρ 16 = (Sl.v p0) ∧ ρ 17 = (Value.int .i64 (p0.len : Int)) ∧ ρ 18 = (Value.int .i64 l13.2) ∧ True) (J25) ?_ ?_
      · clear hk
        rcases Bool.eq_false_or_eq_true (c24) with hc26 | hc26
        · replace h := h.1 hc26
          refine wpR_pass (wantN rfl rfl rfl hc26) rfl rfl ?_
          refine wpR_pass (wantN rfl rfl rfl hc26) rfl rfl ?_
          refine wpR_pass (wantN rfl rfl rfl hc26) rfl rfl ?_
          refine wpR_pass (wantN rfl rfl rfl hc26) rfl rfl ?_
          refine wpR_val (v := (Value.bool true)) (w' := w4) rfl rfl rfl (x_pickT (v := (Value.bool true)) rfl rfl hc26 rfl) ?_
          refine wpR_nil ?_
          exact ⟨true, ⟨rfl, e5, e6, e8, e16, e17, e18, trivial⟩, h⟩
        · replace h := h.2 hc26
          refine wpR_val (v := (Value.pointer (some ((Addr.mk b18 0 none).add 1)))) (w' := w4) (wantG rfl rfl rfl hc26) rfl rfl (x_fieldAddr rfl e8 FA_56_1) ?_
          obtain ⟨x27, q27, h⟩ := h
          refine wpR_val (v := (Value.int .i64 x27)) (w' := w4) (wantG rfl rfl rfl hc26) rfl rfl (x_load1 rfl rfl SH_3 q27) ?_
          refine wpR_enter (wantG rfl rfl rfl hc26) rfl rfl (x_call (vs := [(Value.int .i64 x27)]) rfl rfl (mapl_cons rfl mapl_nil) Try.func32 NN_32 NB_32) (Calls.mono h ?_)
          rintro _ w5 ⟨r28, rfl, h⟩
          refine ⟨_, rfl, ?_⟩
          refine wpR_val (v := (Value.bool (!r28))) (w' := w5) (wantG rfl rfl rfl hc26) rfl rfl (x_not rfl rfl) ?_
          refine wpR_val (v := (Value.bool (!r28))) (w' := w5) rfl rfl rfl (x_pickF (v := (Value.bool (!r28))) rfl rfl hc26 rfl) ?_
          refine wpR_nil ?_
          exact ⟨!r28, ⟨rfl, e5, e6, e8, e16, e17, e18, trivial⟩, h⟩
      clear h
      rintro c29 ρ w6 ⟨e35, e5, e6, e8, e16, e17, e18, -⟩ h
      replace h := hk c29 w6 h
      clear hk
      refine wpR_nil ?_
      refine wpC_cond (b := c29) e35 (fun hc30 => ?_) (fun hc30 => ?_)
      · replace h := h.1 hc30
        refine wpC_seq ?_
        refine wpC_region ?_
        refine wpR_val (v := (Value.int .i64 1)) (w' := w6) rfl rfl rfl (x_assign (v := (Value.int .i64 1)) rfl rfl) ?_
        refine wpR_nil ?_
        refine wpC_ret ?_
        exact ⟨.inl rfl, fun a ha => ⟨_, results_rep1 rfl ha rfl, 1, rfl, h⟩⟩
      · replace h := h.2 hc30
        refine wpC_skip ?_
        refine wpC_seq ?_
        refine wpC_region ?_
        refine wpR_val (v := (Value.bool l13.1)) (w' := w6) rfl rfl rfl (x_move (v := (Value.bool l13.1)) rfl e6) ?_
        refine wpR_val (v := (Value.bool l13.1)) (w' := w6) rfl rfl rfl (x_move (v := (Value.bool l13.1)) rfl rfl) ?_
        obtain ⟨J31, h, hk⟩ := h
        refine wpR_joinJ 5 (fun x ρ => ρ 42 = Value.bool x ∧ ρ 5 = (Value.map r12) ∧ ρ 8 = (Value.pointer (some (Addr.mk b18 0 none))) ∧ ρ 16 = (Sl.v p0) ∧ ρ 17 = (Value.int .i64 (p0.len : Int)) ∧ ρ 18 = (Value.int .i64 l13.2) ∧ True) (J31) ?_ ?_
        · clear hk
          rcases Bool.eq_false_or_eq_true (l13.1) with hc32 | hc32
          · replace h := h.1 hc32
            refine wpR_pass (wantN rfl rfl rfl hc32) rfl rfl ?_
            refine wpR_pass (wantN rfl rfl rfl hc32) rfl rfl ?_
            refine wpR_pass (wantN rfl rfl rfl hc32) rfl rfl ?_
            refine wpR_pass (wantN rfl rfl rfl hc32) rfl rfl ?_
            refine wpR_val (v := (Value.bool true)) (w' := w6) rfl rfl rfl (x_pickT (v := (Value.bool true)) rfl rfl hc32 rfl) ?_
            refine wpR_nil ?_
            exact ⟨true, ⟨rfl, e5, e8, e16, e17, e18, trivial⟩, h⟩
          · replace h := h.2 hc32
            refine wpR_val (v := (Value.map r12)) (w' := w6) (wantG rfl rfl rfl hc32) rfl rfl (x_move (v := (Value.map r12)) rfl e5) ?_
            refine wpR_val (v := (Value.pointer (some ((Addr.mk b18 0 none).add 0)))) (w' := w6) (wantG rfl rfl rfl hc32) rfl rfl (x_fieldAddr rfl e8 FA_56_0) ?_
            obtain ⟨x33, q33, h⟩ := h
            refine wpR_val (v := (Value.int .i64 x33)) (w' := w6) (wantG rfl rfl rfl hc32) rfl rfl (x_load1 rfl rfl SH_3 q33) ?_
            obtain ⟨r34, w7, q34, h⟩ := h
            refine wpR_val (v := (Value.bool r34)) (w' := w7) (wantG rfl rfl rfl hc32) rfl rfl (x_lookup rfl rfl rfl q34) ?_
            refine wpR_val (v := (Value.bool r34)) (w' := w7) rfl rfl rfl (x_pickF (v := (Value.bool r34)) rfl rfl hc32 rfl) ?_
            refine wpR_nil ?_
            exact ⟨r34, ⟨rfl, e5, e8, e16, e17, e18, trivial⟩, h⟩
        clear h
        rintro c35 ρ w8 ⟨e42, e5, e8, e16, e17, e18, -⟩ h
        replace h := hk c35 w8 h
        clear hk
        refine wpR_val (v := (Value.bool c35)) (w' := w8) rfl rfl rfl (x_assign (v := (Value.bool c35)) rfl e42) ?_
        refine wpR_nil ?_
        refine wpC_cut (fun ρ => ρ 5 = (Value.map r12) ∧ ρ 6 = (Value.bool c35) ∧ ρ 8 = (Value.pointer (some (Addr.mk b18 0 none))) ∧ ρ 16 = (Sl.v p0) ∧ ρ 17 = (Value.int .i64 (p0.len : Int)) ∧ ρ 18 = (Value.int .i64 l13.2) ∧ True) ⟨e5, rfl, e8, e16, e17, e18, trivial⟩ ?_
        rintro ρ ⟨e5, e6, e8, e16, e17, e18, -⟩
        refine wpC_region ?_
        refine wpR_val (v := (Value.map r12)) (w' := w8) rfl rfl rfl (x_move (v := (Value.map r12)) rfl e5) ?_
        refine wpR_val (v := (Value.pointer (some ((Addr.mk b18 0 none).add 0)))) (w' := w8) rfl rfl rfl (x_fieldAddr rfl e8 FA_56_0) ?_
        obtain ⟨x36, q36, h⟩ := h
        refine wpR_val (v := (Value.int .i64 x36)) (w' := w8) rfl rfl rfl (x_load1 rfl rfl SH_3 q36) ?_
        obtain ⟨w9, q37, h⟩ := h
        refine wpR_skp (w' := w9) rfl rfl (x_mapUpdate rfl rfl rfl rfl q37) ?_
        refine wpR_nil ?_
        refine wpC_cut (fun ρ => ρ 5 = (Value.map r12) ∧ ρ 6 = (Value.bool c35) ∧ ρ 16 = (Sl.v p0) ∧ ρ 17 = (Value.int .i64 (p0.len : Int)) ∧ ρ 18 = (Value.int .i64 l13.2) ∧ True) ⟨e5, e6, e16, e17, e18, trivial⟩ ?_
        rintro ρ ⟨e5, e6, e16, e17, e18, -⟩
        refine wpC_region ?_
        refine wpR_val (v := (Value.int .i64 (IntKind.i64.wrap (l13.2 + 1)))) (w' := w9) rfl rfl rfl (x_add rfl e18 rfl) ?_
        refine wpR_val (v := (Value.int .i64 (IntKind.i64.wrap (l13.2 + 1)))) (w' := w9) rfl rfl rfl (x_move (v := (Value.int .i64 (IntKind.i64.wrap (l13.2 + 1)))) rfl rfl) ?_
        refine wpR_nil ?_
        exact ⟨(c35, IntKind.i64.wrap (l13.2 + 1)), ⟨e6, rfl, e5, e16, e17, trivial⟩, h⟩
    · replace h := h.2 hc14
      refine wpC_exit ?_
      refine wpC_seq ?_
      refine wpC_seq ?_
      refine wpC_cut (fun ρ => ρ 6 = (Value.bool l13.1) ∧ True) ⟨e6, trivial⟩ ?_
      rintro ρ ⟨e6, -⟩
      refine wpC_region ?_
      refine wpR_val (v := (Value.bool l13.1)) (w' := w2) rfl rfl rfl (x_move (v := (Value.bool l13.1)) rfl e6) ?_
      refine wpR_nil ?_
      refine wpC_cond (b := l13.1) rfl (fun hc38 => ?_) (fun hc38 => ?_)
      · replace h := h.1 hc38
        refine wpC_seq ?_
        refine wpC_cut (fun ρ => True) trivial ?_
        rintro ρ -
        refine wpC_region ?_
        refine wpR_val (v := (Value.int .i64 5)) (w' := w2) rfl rfl rfl (x_assign (v := (Value.int .i64 5)) rfl rfl) ?_
        refine wpR_nil ?_
        refine wpC_ret ?_
        exact ⟨.inl rfl, fun a ha => ⟨_, results_rep1 rfl ha rfl, 5, rfl, h⟩⟩
      · replace h := h.2 hc38
        refine wpC_skip ?_
        refine wpC_seq ?_
        refine wpC_cut (fun ρ => True) trivial ?_
        rintro ρ -
        refine wpC_region ?_
        refine wpR_val (v := (Value.int .i64 0)) (w' := w2) rfl rfl rfl (x_assign (v := (Value.int .i64 0)) rfl rfl) ?_
        refine wpR_nil ?_
        refine wpC_ret ?_
        exact ⟨.inl rfl, fun a ha => ⟨_, results_rep1 rfl ha rfl, 0, rfl, h⟩⟩

/-- share.right -/
def F32 (p0 : Int) (w0 : World) (K : Bool → World → Prop) : Prop :=
  K ((decide (0 ≤ p0)) && (decide (p0 < 2147483647))) w0
set_option maxRecDepth 100000 in
theorem D32 (p0 : Int) (w0 : World) (K : Bool → World → Prop) (h : F32 p0 w0 K) : callC Try.prog 32 #[(Value.int .i64 p0)] (fun (r : Bool) => (Value.bool r)) w0 K := by
  unfold F32 at h
  refine calls_of_wpC Try.func32 rfl 9 rfl (by simp) ?_
  intro ρ hρ
  have e0 : ρ 0 = (Value.int .i64 p0) := hρ 0
  clear hρ
  refine wpC_seq ?_
  refine wpC_region ?_
  refine wpR_val (v := (Value.bool false)) (w' := w0) rfl rfl rfl (x_assign (v := (Value.bool false)) rfl rfl) ?_
  refine wpR_nil ?_
  refine wpC_seq ?_
  refine wpC_cut (fun ρ => ρ 0 = (Value.int .i64 p0) ∧ True) ⟨e0, trivial⟩ ?_
  rintro ρ ⟨e0, -⟩
  refine wpC_region ?_
  refine wpR_val (v := (Value.int .i64 p0)) (w' := w0) rfl rfl rfl (x_move (v := (Value.int .i64 p0)) rfl e0) ?_
  refine wpR_val (v := (Value.bool (decide (0 ≤ p0)))) (w' := w0) rfl rfl rfl (x_geq rfl rfl rfl) ?_
  refine wpR_val (v := (Value.bool (decide (0 ≤ p0)))) (w' := w0) rfl rfl rfl (x_move (v := (Value.bool (decide (0 ≤ p0)))) rfl rfl) ?_
  refine wpR_joinJ 3 (fun (_ : Unit) ρ => ρ 8 = Value.bool ((decide (0 ≤ p0)) && (decide (p0 < 2147483647))) ∧ True) (fun _ w => w0 = w) ?_ ?_
  · clear h
    rcases Bool.eq_false_or_eq_true (decide (0 ≤ p0)) with hc10 | hc10
    · skip
      refine wpR_val (v := (Value.int .i64 p0)) (w' := w0) (wantG rfl rfl rfl hc10) rfl rfl (x_move (v := (Value.int .i64 p0)) rfl e0) ?_
      refine wpR_val (v := (Value.bool (decide (p0 < 2147483647)))) (w' := w0) (wantG rfl rfl rfl hc10) rfl rfl (x_lss rfl rfl rfl) ?_
      refine wpR_val (v := (Value.bool (decide (p0 < 2147483647)))) (w' := w0) rfl rfl rfl (x_pickT (v := (Value.bool (decide (p0 < 2147483647)))) rfl rfl hc10 rfl) ?_
      refine wpR_nil ?_
      exact ⟨(), ⟨(by rw [hc10]; rfl), trivial⟩, rfl⟩
    · skip
      refine wpR_pass (wantN rfl rfl rfl hc10) rfl rfl ?_
      refine wpR_pass (wantN rfl rfl rfl hc10) rfl rfl ?_
      refine wpR_val (v := (Value.bool false)) (w' := w0) rfl rfl rfl (x_pickF (v := (Value.bool false)) rfl rfl hc10 rfl) ?_
      refine wpR_nil ?_
      exact ⟨(), ⟨(by rw [hc10]; rfl), trivial⟩, rfl⟩
  rintro _ ρ wj ⟨e8, -⟩ rfl
  refine wpR_val (v := (Value.bool ((decide (0 ≤ p0)) && (decide (p0 < 2147483647))))) (w' := w0) rfl rfl rfl (x_assign (v := (Value.bool ((decide (0 ≤ p0)) && (decide (p0 < 2147483647))))) rfl e8) ?_
  refine wpR_nil ?_
  refine wpC_ret ?_
  exact ⟨.inl rfl, fun a ha => ⟨_, results_rep1 rfl ha rfl, (decide (0 ≤ p0)) && (decide (p0 < 2147483647)), rfl, h⟩⟩

/-- share.agree -/
def F33 (p0 : Sl) (p1 : Int) (w0 : World) (K : Bool → World → Prop) : Prop :=
  lp (fun (next9 : Int → World → Prop) l9 w1 =>
    cnd (decide (l9 < (p0.len : Int)))
      (
      jn (fun (J12 : Bool → World → Prop) => tk w1 fun w2 =>
        ix p0 l9 2 fun p13 =>
        ld (Value.int .i64) (p13.add 0) w2 fun x14 =>
        ix p0 l9 2 fun p15 =>
        ld (Value.int .i64) (p15.add 1) w2 fun x16 =>
        rn Try.prog (Instr.sliceAt 25 (Sl.v p0) none (some (Value.int .i64 p1)) none) (fun (r : Sl) => (Sl.v r)) w2 fun r17 w3 =>
        (w3.cell? (p15.add 1) = some (Value.int .i64 x16)) ∧
        (w3.cell? (p13.add 0) = some (Value.int .i64 x14)) ∧
        callC Try.prog 39 #[(Sl.v r17), (Value.int .i64 x14)] (fun (r : Int) => (Value.int .i64 r)) w3 fun r18 w4 =>
        (w4.cell? (p15.add 1) = some (Value.int .i64 x16)) ∧
        J12 (!decide (r18 = x16)) w4
      )
      fun l19 w5 =>
      cnd (l19)
        (
        K false w5
        )
        (
        next9 (IntKind.i64.wrap (l9 + 1)) w5
        )
      )
      (
      K true w1
      )
  ) p1 w0
set_option maxRecDepth 100000 in
theorem D33 (p0 : Sl) (p1 : Int) (w0 : World) (K : Bool → World → Prop) (h : F33 p0 p1 w0 K) : callC Try.prog 33 #[(Sl.v p0), (Value.int .i64 p1)] (fun (r : Bool) => (Value.bool r)) w0 K := by
  unfold F33 at h
  refine calls_of_wpC Try.func33 rfl 28 rfl (by simp) ?_
  intro ρ hρ
  have e0 : ρ 0 = (Sl.v p0) := hρ 0
  have e1 : ρ 1 = (Value.int .i64 p1) := hρ 1
  clear hρ
  refine wpC_seq ?_
  refine wpC_region ?_
  refine wpR_val (v := (Value.bool false)) (w' := w0) rfl rfl rfl (x_assign (v := (Value.bool false)) rfl rfl) ?_
  refine wpR_nil ?_
  refine wpC_seq ?_
  refine wpC_seq ?_
  refine wpC_cut (fun ρ => ρ 0 = (Sl.v p0) ∧ ρ 1 = (Value.int .i64 p1) ∧ True) ⟨e0, e1, trivial⟩ ?_
  rintro ρ ⟨e0, e1, -⟩
  refine wpC_region ?_
  refine wpR_val (v := (Value.int .i64 p1)) (w' := w0) rfl rfl rfl (x_move (v := (Value.int .i64 p1)) rfl e1) ?_
  refine wpR_val (v := (Value.int .i64 p1)) (w' := w0) rfl rfl rfl (x_assign (v := (Value.int .i64 p1)) rfl rfl) ?_
  refine wpR_nil ?_
  refine wpC_block ?_
  obtain ⟨I9, μ9, hI9, hr9⟩ := h
  refine wpC_loop (fun (x : Int) ρ => ρ 5 = (Value.int .i64 x) ∧ ρ 0 = (Sl.v p0) ∧ ρ 1 = (Value.int .i64 p1) ∧ True) I9 μ9 p1 ⟨rfl, e0, e1, trivial⟩ hI9 ?_
  rintro l9 ρ w1 ⟨e5, e0, e1, -⟩ h
  replace h := hr9 l9 w1 h
  clear hr9 hI9
  refine wpC_seq ?_
  refine wpC_seq ?_
  refine wpC_region ?_
  refine wpR_val (v := (Value.int .i64 l9)) (w' := w1) rfl rfl rfl (x_move (v := (Value.int .i64 l9)) rfl e5) ?_
  refine wpR_val (v := (Sl.v p0)) (w' := w1) rfl rfl rfl (x_move (v := (Sl.v p0)) rfl e0) ?_
  refine wpR_val (v := (Value.int .i64 (p0.len : Int))) (w' := w1) rfl rfl rfl (x_lenS (s := p0) rfl rfl isSliceT_25) ?_
  refine wpR_val (v := (Value.bool (decide (l9 < (p0.len : Int))))) (w' := w1) rfl rfl rfl (x_lss rfl rfl rfl) ?_
  refine wpR_nil ?_
  refine wpC_cond (b := decide (l9 < (p0.len : Int))) rfl (fun hc10 => ?_) (fun hc10 => ?_)
  · replace h := h.1 hc10
    refine wpC_skip ?_
    refine wpC_seq ?_
    refine wpC_block ?_
    refine wpC_seq ?_
    refine wpC_cut (fun ρ => ρ 0 = (Sl.v p0) ∧ ρ 1 = (Value.int .i64 p1) ∧ ρ 5 = (Value.int .i64 l9) ∧ True) ⟨e0, e1, e5, trivial⟩ ?_
    rintro ρ ⟨e0, e1, e5, -⟩
    obtain ⟨J12, h, hk⟩ := h
    refine wpC_drawJ (by kernel_rfl) (fun (x : Bool) ρ => ρ 27 = (Value.bool x) ∧ ρ 0 = (Sl.v p0) ∧ ρ 1 = (Value.int .i64 p1) ∧ ρ 5 = (Value.int .i64 l9) ∧ True) J12 ?_ ?_
    · clear hk
      unfold tk at h
      generalize w1.drew = w2 at h ⊢
      refine wpD_take (v := (Sl.v p0)) 0 (fun _ => True) rfl (by kernel_rfl) (by kernel_rfl) (by kernel_rfl) rfl rfl rfl trivial (fun w _ => (x_move (v := (Sl.v p0)) rfl e0)) ?_
      refine wpD_take (v := (Value.int .i64 p1)) 1 (fun _ => True) rfl (by kernel_rfl) (by kernel_rfl) (by kernel_rfl) rfl rfl rfl trivial (fun w _ => (x_move (v := (Value.int .i64 p1)) rfl e1)) ?_
      refine wpD_take (v := (Sl.v p0)) 3 (fun _ => True) rfl (by kernel_rfl) (by kernel_rfl) (by kernel_rfl) rfl rfl rfl trivial (fun w _ => (x_move (v := (Sl.v p0)) rfl e0)) ?_
      refine wpD_take (v := (Value.int .i64 l9)) 4 (fun _ => True) rfl (by kernel_rfl) (by kernel_rfl) (by kernel_rfl) rfl rfl rfl trivial (fun w _ => (x_move (v := (Value.int .i64 l9)) rfl e5)) ?_
      obtain ⟨q13, z13, r13, h⟩ := h
      generalize hp13 : z13.add ((l9 : Int).toNat * 2) = p13 at h
      refine wpD_take (v := (Value.pointer (some p13))) 5 (fun _ => True) rfl (by kernel_rfl) (by kernel_rfl) (by kernel_rfl) rfl rfl rfl trivial (fun w _ => ((x_indexAddr (s := p0) rfl rfl rfl ES_25 q13 r13).trans (by rw [hp13]))) ?_
      refine wpD_take (v := (Value.pointer (some (p13.add 0)))) 6 (fun _ => True) rfl (by kernel_rfl) (by kernel_rfl) (by kernel_rfl) rfl rfl rfl trivial (fun w _ => (x_fieldAddr rfl rfl FA_56_0)) ?_
      obtain ⟨x14, q14, h⟩ := h
      refine wpD_take (v := (Value.int .i64 x14)) 7 (fun w => w.cell? (p13.add 0) = some (Value.int .i64 x14)) rfl (by kernel_rfl) (by kernel_rfl) (by kernel_rfl) rfl rfl rfl q14 (fun w q14 => (x_load1 rfl rfl SH_3 q14)) ?_
      refine wpD_take (v := (Sl.v p0)) 9 (fun _ => True) rfl (by kernel_rfl) (by kernel_rfl) (by kernel_rfl) rfl rfl rfl trivial (fun w _ => (x_move (v := (Sl.v p0)) rfl e0)) ?_
      refine wpD_take (v := (Value.int .i64 l9)) 10 (fun _ => True) rfl (by kernel_rfl) (by kernel_rfl) (by kernel_rfl) rfl rfl rfl trivial (fun w _ => (x_move (v := (Value.int .i64 l9)) rfl e5)) ?_
      obtain ⟨q15, z15, r15, h⟩ := h
      generalize hp15 : z15.add ((l9 : Int).toNat * 2) = p15 at h
      refine wpD_take (v := (Value.pointer (some p15))) 11 (fun _ => True) rfl (by kernel_rfl) (by kernel_rfl) (by kernel_rfl) rfl rfl rfl trivial (fun w _ => ((x_indexAddr (s := p0) rfl rfl rfl ES_25 q15 r15).trans (by rw [hp15]))) ?_
      refine wpD_take (v := (Value.pointer (some (p15.add 1)))) 12 (fun _ => True) rfl (by kernel_rfl) (by kernel_rfl) (by kernel_rfl) rfl rfl rfl trivial (fun w _ => (x_fieldAddr rfl rfl FA_56_1)) ?_
      obtain ⟨x16, q16, h⟩ := h
      refine wpD_take (v := (Value.int .i64 x16)) 13 (fun w => w.cell? (p15.add 1) = some (Value.int .i64 x16)) rfl (by kernel_rfl) (by kernel_rfl) (by kernel_rfl) rfl rfl rfl q16 (fun w q16 => (x_load1 rfl rfl SH_3 q16)) ?_
      refine wpD_all (rs := [2]) (by kernel_rfl) (by simp) (allD_cons ?_ allD_nil)
      obtain ⟨r17, w3, q17, h⟩ := h
      obtain ⟨o13, h⟩ := h
      obtain ⟨o7, h⟩ := h
      refine stepD_valL (L' := [(13, fun w => w.cell? (p15.add 1) = some (Value.int .i64 x16)), (12, fun _ => True), (11, fun _ => True), (10, fun _ => True), (9, fun _ => True), (7, fun w => w.cell? (p13.add 0) = some (Value.int .i64 x14)), (6, fun _ => True), (5, fun _ => True), (4, fun _ => True), (3, fun _ => True)]) (v := (Sl.v r17)) (w' := w3) rfl rfl rfl rfl (x_sliceAt rfl rfl rfl (congrArg some rfl) rfl q17) (by kernel_rfl) (held_cons o13 (held_cons trivial (held_cons trivial (held_cons trivial (held_cons trivial (held_cons o7 (held_cons trivial (held_cons trivial (held_cons trivial (held_cons trivial held_nil)))))))))) ?_
      refine wpD_all (rs := [8]) (by kernel_rfl) (by simp) (allD_cons ?_ allD_nil)
      refine stepD_enterL (L' := [(13, fun w => w.cell? (p15.add 1) = some (Value.int .i64 x16)), (12, fun _ => True), (11, fun _ => True), (10, fun _ => True), (9, fun _ => True), (6, fun _ => True), (5, fun _ => True), (4, fun _ => True), (3, fun _ => True)]) rfl rfl rfl rfl (x_call (vs := [(Sl.v r17), (Value.int .i64 x14)]) rfl rfl (mapl_cons rfl (mapl_cons rfl mapl_nil)) Try.func39 NN_39 NB_39) (by kernel_rfl) (Calls.mono h ?_)
      rintro _ w4 ⟨r18, rfl, h⟩
      obtain ⟨o13, h⟩ := h
      refine ⟨_, rfl, (held_cons o13 (held_cons trivial (held_cons trivial (held_cons trivial (held_cons trivial (held_cons trivial (held_cons trivial (held_cons trivial (held_cons trivial held_nil))))))))), ?_⟩
      refine wpD_take (v := (Value.bool (!decide (r18 = x16)))) 14 (fun _ => True) rfl (by kernel_rfl) (by kernel_rfl) (by kernel_rfl) rfl rfl rfl trivial (fun w _ => (x_neq rfl rfl rfl)) ?_
      exact wpD_done (by kernel_rfl) ⟨!decide (r18 = x16), ⟨rfl, e0, e1, e5, trivial⟩, h⟩
    clear h
    rintro l19 ρ w5 ⟨e27, e0, e1, e5, -⟩ h
    replace h := hk l19 w5 h
    clear hk
    refine wpC_cond (b := l19) e27 (fun hc20 => ?_) (fun hc20 => ?_)
    · replace h := h.1 hc20
      refine wpC_seq ?_
      refine wpC_region ?_
      refine wpR_val (v := (Value.bool false)) (w' := w5) rfl rfl rfl (x_assign (v := (Value.bool false)) rfl rfl) ?_
      refine wpR_nil ?_
      refine wpC_ret ?_
      exact ⟨.inl rfl, fun a ha => ⟨_, results_rep1 rfl ha rfl, false, rfl, h⟩⟩
    · replace h := h.2 hc20
      refine wpC_skip ?_
      refine wpC_region ?_
      refine wpR_val (v := (Value.int .i64 l9)) (w' := w5) rfl rfl rfl (x_move (v := (Value.int .i64 l9)) rfl e5) ?_
      refine wpR_val (v := (Value.int .i64 (IntKind.i64.wrap (l9 + 1)))) (w' := w5) rfl rfl rfl (x_add rfl rfl rfl) ?_
      refine wpR_val (v := (Value.int .i64 (IntKind.i64.wrap (l9 + 1)))) (w' := w5) rfl rfl rfl (x_assign (v := (Value.int .i64 (IntKind.i64.wrap (l9 + 1)))) rfl rfl) ?_
      refine wpR_nil ?_
      exact ⟨IntKind.i64.wrap (l9 + 1), ⟨rfl, e0, e1, trivial⟩, h⟩
  · replace h := h.2 hc10
    refine wpC_exit ?_
    refine wpC_seq ?_
    refine wpC_cut (fun ρ => True) trivial ?_
    rintro ρ -
    refine wpC_region ?_
    refine wpR_val (v := (Value.bool true)) (w' := w1) rfl rfl rfl (x_assign (v := (Value.bool true)) rfl rfl) ?_
    refine wpR_nil ?_
    refine wpC_ret ?_
    exact ⟨.inl rfl, fun a ha => ⟨_, results_rep1 rfl ha rfl, true, rfl, h⟩⟩

/-- linguaref06.Split -/
def F34 (p0 : Int) (p1 : Int) (p2 : Int) (p3 : Int) (w0 : World) (K : (Sl × Int) → World → Prop) : Prop :=
  cnd ((((((decide (p0 < 0)) || (decide (2147483647 ≤ p0))) || (decide (p2 < 1))) || (decide (20 < p2))) || (decide (p1 < 1))) || (decide (p2 < p1)))
    (
    K (Sl.nil, 1) w0
    )
    (
    rn Try.prog (Instr.makeSlice 25 (Value.int .i64 p2) (Value.int .i64 p2)) (fun (r : Sl) => (Sl.v r)) w0 fun r20 w1 =>
    lp (fun (next21 : Int → World → Prop) l21 w2 =>
      cnd (decide (l21 < p2))
        (
        ix r20 l21 2 fun p23 =>
        st p23 [(Value.int .i64 (IntKind.i64.wrap (l21 + 1))), (Value.int .i64 p0)] w2 fun w3 =>
        next21 (IntKind.i64.wrap (l21 + 1)) w3
        )
        (
        rn Try.prog (Instr.makeSlice 35 (Value.int .i64 p2) (Value.int .i64 p2)) (fun (r : Sl) => (Sl.v r)) w2 fun r25 w4 =>
        lp (fun (next26 : Int → World → Prop) l26 w5 =>
          cnd (decide (l26 < p2))
            (
            ix r25 l26 1 fun p28 =>
            st p28 [(Value.int .i64 1)] w5 fun w6 =>
            next26 (IntKind.i64.wrap (l26 + 1)) w6
            )
            (
            lp (fun (next30 : (Int × Int) → World → Prop) l30 w7 =>
              cnd (decide (l30.2 < p1))
                (
                lp (fun (next32 : Int → World → Prop) l32 w8 =>
                  cnd (decide (l32 < p2))
                    (
                    ix r25 l32 1 fun p34 =>
                    ld (Value.int .i64) p34 w8 fun x35 =>
                    ix r25 l32 1 fun p36 =>
                    st p36 [(Value.int .i64 ((IntKind.i64.wrap (x35 * (IntKind.i64.wrap (l32 + 1)))).tmod 2147483647))] w8 fun w9 =>
                    jn (fun (J39 : Unit → World → Prop) => tk w9 fun w10 =>
                      ix r20 l32 2 fun p40 =>
                      ld (Value.int .i64) (p40.add 1) w10 fun x41 =>
                      ix r25 l32 1 fun p42 =>
                      ld (Value.int .i64) p42 w10 fun x43 =>
                      ix r20 l32 2 fun p44 =>
                      st (p44.add 1) [(Value.int .i64 ((IntKind.i64.wrap (x41 + (IntKind.i64.wrap ((((IntKind.i64.wrap ((IntKind.i64.wrap (1103515245 * l30.1)) + 12345)).tmod 2147483648).tmod 2147483647) * x43)))).tmod 2147483647))] w10 fun w11 =>
                      J39 () w11
                    )
                    fun _l46 w12 =>
                    next32 (IntKind.i64.wrap (l32 + 1)) w12
                    )
                    (
                    next30 ((IntKind.i64.wrap ((IntKind.i64.wrap (1103515245 * l30.1)) + 12345)).tmod 2147483648, IntKind.i64.wrap (l30.2 + 1)) w8
                    )
                ) 0 w7
                )
                (
                K (r20, 0) w7
                )
            ) ((IntKind.i64.wrap ((p3.tmod 2147483648) + 2147483648)).tmod 2147483648, 1) w5
            )
        ) 0 w4
        )
    ) 0 w1
    )
set_option maxRecDepth 100000 in
theorem D34 (p0 : Int) (p1 : Int) (p2 : Int) (p3 : Int) (w0 : World) (K : (Sl × Int) → World → Prop) (h : F34 p0 p1 p2 p3 w0 K) : callC Try.prog 34 #[(Value.int .i64 p0), (Value.int .i64 p1), (Value.int .i64 p2), (Value.int .i64 p3)] (fun (r : Sl × Int) => (Value.tuple #[(Sl.v r.1), (Value.int .i64 r.2)])) w0 K := by
  unfold F34 at h
  refine calls_of_wpC Try.func34 rfl 112 rfl (by simp) ?_
  intro ρ hρ
  have e0 : ρ 0 = (Value.int .i64 p0) := hρ 0
  have e1 : ρ 1 = (Value.int .i64 p1) := hρ 1
  have e2 : ρ 2 = (Value.int .i64 p2) := hρ 2
  have e3 : ρ 3 = (Value.int .i64 p3) := hρ 3
  clear hρ
  refine wpC_seq ?_
  refine wpC_region ?_
  refine wpR_val (v := (Sl.v Sl.nil)) (w' := w0) rfl rfl rfl (x_assign (v := (Sl.v Sl.nil)) rfl rfl) ?_
  refine wpR_val (v := (Value.int .i64 0)) (w' := w0) rfl rfl rfl (x_assign (v := (Value.int .i64 0)) rfl rfl) ?_
  refine wpR_nil ?_
  refine wpC_seq ?_
  refine wpC_seq ?_
  refine wpC_cut (fun ρ => ρ 0 = (Value.int .i64 p0) ∧ ρ 1 = (Value.int .i64 p1) ∧ ρ 2 = (Value.int .i64 p2) ∧ ρ 3 = (Value.int .i64 p3) ∧ True) ⟨e0, e1, e2, e3, trivial⟩ ?_
  rintro ρ ⟨e0, e1, e2, e3, -⟩
  refine wpC_region ?_
  refine wpR_val (v := (Value.int .i64 p0)) (w' := w0) rfl rfl rfl (x_move (v := (Value.int .i64 p0)) rfl e0) ?_
  refine wpR_val (v := (Value.bool (decide (p0 < 0)))) (w' := w0) rfl rfl rfl (x_lss rfl rfl rfl) ?_
  refine wpR_val (v := (Value.bool (decide (p0 < 0)))) (w' := w0) rfl rfl rfl (x_move (v := (Value.bool (decide (p0 < 0)))) rfl rfl) ?_
  refine wpR_joinJ 3 (fun (_ : Unit) ρ => ρ 22 = Value.bool ((decide (p0 < 0)) || (decide (2147483647 ≤ p0))) ∧ ρ 0 = (Value.int .i64 p0) ∧ ρ 1 = (Value.int .i64 p1) ∧ ρ 2 = (Value.int .i64 p2) ∧ ρ 3 = (Value.int .i64 p3) ∧ True) (fun _ w => w0 = w) ?_ ?_
  · clear h
    rcases Bool.eq_false_or_eq_true (decide (p0 < 0)) with hc10 | hc10
    · skip
      refine wpR_pass (wantN rfl rfl rfl hc10) rfl rfl ?_
      refine wpR_pass (wantN rfl rfl rfl hc10) rfl rfl ?_
      refine wpR_val (v := (Value.bool true)) (w' := w0) rfl rfl rfl (x_pickT (v := (Value.bool true)) rfl rfl hc10 rfl) ?_
      refine wpR_nil ?_
      exact ⟨(), ⟨(by rw [hc10]; rfl), e0, e1, e2, e3, trivial⟩, rfl⟩
    · skip
      refine wpR_val (v := (Value.int .i64 p0)) (w' := w0) (wantG rfl rfl rfl hc10) rfl rfl (x_move (v := (Value.int .i64 p0)) rfl e0) ?_
      refine wpR_val (v := (Value.bool (decide (2147483647 ≤ p0)))) (w' := w0) (wantG rfl rfl rfl hc10) rfl rfl (x_geq rfl rfl rfl) ?_
      refine wpR_val (v := (Value.bool (decide (2147483647 ≤ p0)))) (w' := w0) rfl rfl rfl (x_pickF (v := (Value.bool (decide (2147483647 ≤ p0)))) rfl rfl hc10 rfl) ?_
      refine wpR_nil ?_
      exact ⟨(), ⟨(by rw [hc10]; rfl), e0, e1, e2, e3, trivial⟩, rfl⟩
  rintro _ ρ wj ⟨e22, e0, e1, e2, e3, -⟩ rfl
  refine wpR_val (v := (Value.bool ((decide (p0 < 0)) || (decide (2147483647 ≤ p0))))) (w' := w0) rfl rfl rfl (x_move (v := (Value.bool ((decide (p0 < 0)) || (decide (2147483647 ≤ p0))))) rfl e22) ?_
  refine wpR_joinJ 3 (fun (_ : Unit) ρ => ρ 26 = Value.bool (((decide (p0 < 0)) || (decide (2147483647 ≤ p0))) || (decide (p2 < 1))) ∧ ρ 0 = (Value.int .i64 p0) ∧ ρ 1 = (Value.int .i64 p1) ∧ ρ 2 = (Value.int .i64 p2) ∧ ρ 3 = (Value.int .i64 p3) ∧ True) (fun _ w => w0 = w) ?_ ?_
  · clear h
    rcases Bool.eq_false_or_eq_true ((decide (p0 < 0)) || (decide (2147483647 ≤ p0))) with hc12 | hc12
    · skip
      refine wpR_pass (wantN rfl rfl rfl hc12) rfl rfl ?_
      refine wpR_pass (wantN rfl rfl rfl hc12) rfl rfl ?_
      refine wpR_val (v := (Value.bool true)) (w' := w0) rfl rfl rfl (x_pickT (v := (Value.bool true)) rfl rfl hc12 rfl) ?_
      refine wpR_nil ?_
      exact ⟨(), ⟨(by rw [hc12]; rfl), e0, e1, e2, e3, trivial⟩, rfl⟩
    · skip
      refine wpR_val (v := (Value.int .i64 p2)) (w' := w0) (wantG rfl rfl rfl hc12) rfl rfl (x_move (v := (Value.int .i64 p2)) rfl e2) ?_
      refine wpR_val (v := (Value.bool (decide (p2 < 1)))) (w' := w0) (wantG rfl rfl rfl hc12) rfl rfl (x_lss rfl rfl rfl) ?_
      refine wpR_val (v := (Value.bool (decide (p2 < 1)))) (w' := w0) rfl rfl rfl (x_pickF (v := (Value.bool (decide (p2 < 1)))) rfl rfl hc12 rfl) ?_
      refine wpR_nil ?_
      exact ⟨(), ⟨(by rw [hc12]; rfl), e0, e1, e2, e3, trivial⟩, rfl⟩
  rintro _ ρ wj ⟨e26, e0, e1, e2, e3, -⟩ rfl
  refine wpR_val (v := (Value.bool (((decide (p0 < 0)) || (decide (2147483647 ≤ p0))) || (decide (p2 < 1))))) (w' := w0) rfl rfl rfl (x_move (v := (Value.bool (((decide (p0 < 0)) || (decide (2147483647 ≤ p0))) || (decide (p2 < 1))))) rfl e26) ?_
  refine wpR_joinJ 3 (fun (_ : Unit) ρ => ρ 30 = Value.bool ((((decide (p0 < 0)) || (decide (2147483647 ≤ p0))) || (decide (p2 < 1))) || (decide (20 < p2))) ∧ ρ 0 = (Value.int .i64 p0) ∧ ρ 1 = (Value.int .i64 p1) ∧ ρ 2 = (Value.int .i64 p2) ∧ ρ 3 = (Value.int .i64 p3) ∧ True) (fun _ w => w0 = w) ?_ ?_
  · clear h
    rcases Bool.eq_false_or_eq_true (((decide (p0 < 0)) || (decide (2147483647 ≤ p0))) || (decide (p2 < 1))) with hc14 | hc14
    · skip
      refine wpR_pass (wantN rfl rfl rfl hc14) rfl rfl ?_
      refine wpR_pass (wantN rfl rfl rfl hc14) rfl rfl ?_
      refine wpR_val (v := (Value.bool true)) (w' := w0) rfl rfl rfl (x_pickT (v := (Value.bool true)) rfl rfl hc14 rfl) ?_
      refine wpR_nil ?_
      exact ⟨(), ⟨(by rw [hc14]; rfl), e0, e1, e2, e3, trivial⟩, rfl⟩
    · skip
      refine wpR_val (v := (Value.int .i64 p2)) (w' := w0) (wantG rfl rfl rfl hc14) rfl rfl (x_move (v := (Value.int .i64 p2)) rfl e2) ?_
      refine wpR_val (v := (Value.bool (decide (20 < p2)))) (w' := w0) (wantG rfl rfl rfl hc14) rfl rfl (x_gtr rfl rfl rfl) ?_
      refine wpR_val (v := (Value.bool (decide (20 < p2)))) (w' := w0) rfl rfl rfl (x_pickF (v := (Value.bool (decide (20 < p2)))) rfl rfl hc14 rfl) ?_
      refine wpR_nil ?_
      exact ⟨(), ⟨(by rw [hc14]; rfl), e0, e1, e2, e3, trivial⟩, rfl⟩
  rintro _ ρ wj ⟨e30, e0, e1, e2, e3, -⟩ rfl
  refine wpR_val (v := (Value.bool ((((decide (p0 < 0)) || (decide (2147483647 ≤ p0))) || (decide (p2 < 1))) || (decide (20 < p2))))) (w' := w0) rfl rfl rfl (x_move (v := (Value.bool ((((decide (p0 < 0)) || (decide (2147483647 ≤ p0))) || (decide (p2 < 1))) || (decide (20 < p2))))) rfl e30) ?_
  refine wpR_joinJ 3 (fun (_ : Unit) ρ => ρ 34 = Value.bool (((((decide (p0 < 0)) || (decide (2147483647 ≤ p0))) || (decide (p2 < 1))) || (decide (20 < p2))) || (decide (p1 < 1))) ∧ ρ 0 = (Value.int .i64 p0) ∧ ρ 1 = (Value.int .i64 p1) ∧ ρ 2 = (Value.int .i64 p2) ∧ ρ 3 = (Value.int .i64 p3) ∧ True) (fun _ w => w0 = w) ?_ ?_
  · clear h
    rcases Bool.eq_false_or_eq_true ((((decide (p0 < 0)) || (decide (2147483647 ≤ p0))) || (decide (p2 < 1))) || (decide (20 < p2))) with hc16 | hc16
    · skip
      refine wpR_pass (wantN rfl rfl rfl hc16) rfl rfl ?_
      refine wpR_pass (wantN rfl rfl rfl hc16) rfl rfl ?_
      refine wpR_val (v := (Value.bool true)) (w' := w0) rfl rfl rfl (x_pickT (v := (Value.bool true)) rfl rfl hc16 rfl) ?_
      refine wpR_nil ?_
      exact ⟨(), ⟨(by rw [hc16]; rfl), e0, e1, e2, e3, trivial⟩, rfl⟩
    · skip
      refine wpR_val (v := (Value.int .i64 p1)) (w' := w0) (wantG rfl rfl rfl hc16) rfl rfl (x_move (v := (Value.int .i64 p1)) rfl e1) ?_
      refine wpR_val (v := (Value.bool (decide (p1 < 1)))) (w' := w0) (wantG rfl rfl rfl hc16) rfl rfl (x_lss rfl rfl rfl) ?_
      refine wpR_val (v := (Value.bool (decide (p1 < 1)))) (w' := w0) rfl rfl rfl (x_pickF (v := (Value.bool (decide (p1 < 1)))) rfl rfl hc16 rfl) ?_
      refine wpR_nil ?_
      exact ⟨(), ⟨(by rw [hc16]; rfl), e0, e1, e2, e3, trivial⟩, rfl⟩
  rintro _ ρ wj ⟨e34, e0, e1, e2, e3, -⟩ rfl
  refine wpR_val (v := (Value.bool (((((decide (p0 < 0)) || (decide (2147483647 ≤ p0))) || (decide (p2 < 1))) || (decide (20 < p2))) || (decide (p1 < 1))))) (w' := w0) rfl rfl rfl (x_move (v := (Value.bool (((((decide (p0 < 0)) || (decide (2147483647 ≤ p0))) || (decide (p2 < 1))) || (decide (20 < p2))) || (decide (p1 < 1))))) rfl e34) ?_
  refine wpR_joinJ 4 (fun (_ : Unit) ρ => ρ 39 = Value.bool ((((((decide (p0 < 0)) || (decide (2147483647 ≤ p0))) || (decide (p2 < 1))) || (decide (20 < p2))) || (decide (p1 < 1))) || (decide (p2 < p1))) ∧ ρ 0 = (Value.int .i64 p0) ∧ ρ 1 = (Value.int .i64 p1) ∧ ρ 2 = (Value.int .i64 p2) ∧ ρ 3 = (Value.int .i64 p3) ∧ True) (fun _ w => w0 = w) ?_ ?_
  · clear h
    rcases Bool.eq_false_or_eq_true (((((decide (p0 < 0)) || (decide (2147483647 ≤ p0))) || (decide (p2 < 1))) || (decide (20 < p2))) || (decide (p1 < 1))) with hc18 | hc18
    · skip
      refine wpR_pass (wantN rfl rfl rfl hc18) rfl rfl ?_
      refine wpR_pass (wantN rfl rfl rfl hc18) rfl rfl ?_
      refine wpR_pass (wantN rfl rfl rfl hc18) rfl rfl ?_
      refine wpR_val (v := (Value.bool true)) (w' := w0) rfl rfl rfl (x_pickT (v := (Value.bool true)) rfl rfl hc18 rfl) ?_
      refine wpR_nil ?_
      exact ⟨(), ⟨(by rw [hc18]; rfl), e0, e1, e2, e3, trivial⟩, rfl⟩
    · skip
      refine wpR_val (v := (Value.int .i64 p1)) (w' := w0) (wantG rfl rfl rfl hc18) rfl rfl (x_move (v := (Value.int .i64 p1)) rfl e1) ?_
      refine wpR_val (v := (Value.int .i64 p2)) (w' := w0) (wantG rfl rfl rfl hc18) rfl rfl (x_move (v := (Value.int .i64 p2)) rfl e2) ?_
      refine wpR_val (v := (Value.bool (decide (p2 < p1)))) (w' := w0) (wantG rfl rfl rfl hc18) rfl rfl (x_gtr rfl rfl rfl) ?_
      refine wpR_val (v := (Value.bool (decide (p2 < p1)))) (w' := w0) rfl rfl rfl (x_pickF (v := (Value.bool (decide (p2 < p1)))) rfl rfl hc18 rfl) ?_
      refine wpR_nil ?_
      exact ⟨(), ⟨(by rw [hc18]; rfl), e0, e1, e2, e3, trivial⟩, rfl⟩
  rintro _ ρ wj ⟨e39, e0, e1, e2, e3, -⟩ rfl
  refine wpR_nil ?_
  refine wpC_cond (b := (((((decide (p0 < 0)) || (decide (2147483647 ≤ p0))) || (decide (p2 < 1))) || (decide (20 < p2))) || (decide (p1 < 1))) || (decide (p2 < p1))) e39 (fun hc19 => ?_) (fun hc19 => ?_)
  · replace h := h.1 hc19
    refine wpC_seq ?_
    refine wpC_region ?_
    refine wpR_val (v := (Sl.v Sl.nil)) (w' := w0) rfl rfl rfl (x_assign (v := (Sl.v Sl.nil)) rfl rfl) ?_
    refine wpR_val (v := (Value.int .i64 1)) (w' := w0) rfl rfl rfl (x_assign (v := (Value.int .i64 1)) rfl rfl) ?_
    refine wpR_nil ?_
    refine wpC_ret ?_
    exact ⟨.inl rfl, fun a ha => ⟨_, results_rep2 rfl ha rfl rfl, (Sl.nil, 1), rfl, h⟩⟩
  · replace h := h.2 hc19
    refine wpC_skip ?_
    refine wpC_seq ?_
    refine wpC_region ?_
    refine wpR_val (v := (Value.int .i64 p3)) (w' := w0) rfl rfl rfl (x_move (v := (Value.int .i64 p3)) rfl e3) ?_
    refine wpR_val (v := (Value.int .i64 (p3.tmod 2147483648))) (w' := w0) rfl rfl rfl (x_rem rfl rfl rfl (by decide)) ?_
    refine wpR_val (v := (Value.int .i64 (IntKind.i64.wrap ((p3.tmod 2147483648) + 2147483648)))) (w' := w0) rfl rfl rfl (x_add rfl rfl rfl) ?_
    refine wpR_val (v := (Value.int .i64 ((IntKind.i64.wrap ((p3.tmod 2147483648) + 2147483648)).tmod 2147483648))) (w' := w0) rfl rfl rfl (x_rem rfl rfl rfl (by decide)) ?_
    refine wpR_val (v := (Value.int .i64 ((IntKind.i64.wrap ((p3.tmod 2147483648) + 2147483648)).tmod 2147483648))) (w' := w0) rfl rfl rfl (x_assign (v := (Value.int .i64 ((IntKind.i64.wrap ((p3.tmod 2147483648) + 2147483648)).tmod 2147483648))) rfl rfl) ?_
    refine wpR_nil ?_
    refine wpC_seq ?_
    refine wpC_cut (fun ρ => ρ 0 = (Value.int .i64 p0) ∧ ρ 1 = (Value.int .i64 p1) ∧ ρ 2 = (Value.int .i64 p2) ∧ ρ 10 = (Value.int .i64 ((IntKind.i64.wrap ((p3.tmod 2147483648) + 2147483648)).tmod 2147483648)) ∧ True) ⟨e0, e1, e2, rfl, trivial⟩ ?_
    rintro ρ ⟨e0, e1, e2, e10, -⟩
    refine wpC_region ?_
    refine wpR_val (v := (Value.int .i64 p2)) (w' := w0) rfl rfl rfl (x_move (v := (Value.int .i64 p2)) rfl e2) ?_
    obtain ⟨r20, w1, q20, h⟩ := h
    refine wpR_val (v := (Sl.v r20)) (w' := w1) rfl rfl rfl (x_makeSlice rfl rfl rfl q20) ?_
    refine wpR_val (v := (Sl.v r20)) (w' := w1) rfl rfl rfl (x_assign (v := (Sl.v r20)) rfl rfl) ?_
    refine wpR_nil ?_
    refine wpC_seq ?_
    refine wpC_seq ?_
    refine wpC_cut (fun ρ => ρ 0 = (Value.int .i64 p0) ∧ ρ 1 = (Value.int .i64 p1) ∧ ρ 2 = (Value.int .i64 p2) ∧ ρ 10 = (Value.int .i64 ((IntKind.i64.wrap ((p3.tmod 2147483648) + 2147483648)).tmod 2147483648)) ∧ ρ 11 = (Sl.v r20) ∧ True) ⟨e0, e1, e2, e10, rfl, trivial⟩ ?_
    rintro ρ ⟨e0, e1, e2, e10, e11, -⟩
    refine wpC_region ?_
    refine wpR_val (v := (Value.int .i64 0)) (w' := w1) rfl rfl rfl (x_assign (v := (Value.int .i64 0)) rfl rfl) ?_
    refine wpR_nil ?_
    refine wpC_block ?_
    obtain ⟨I21, μ21, hI21, hr21⟩ := h
    refine wpC_loop (fun (x : Int) ρ => ρ 12 = (Value.int .i64 x) ∧ ρ 0 = (Value.int .i64 p0) ∧ ρ 1 = (Value.int .i64 p1) ∧ ρ 2 = (Value.int .i64 p2) ∧ ρ 10 = (Value.int .i64 ((IntKind.i64.wrap ((p3.tmod 2147483648) + 2147483648)).tmod 2147483648)) ∧ ρ 11 = (Sl.v r20) ∧ True) I21 μ21 0 ⟨rfl, e0, e1, e2, e10, e11, trivial⟩ hI21 ?_
    rintro l21 ρ w2 ⟨e12, e0, e1, e2, e10, e11, -⟩ h
    replace h := hr21 l21 w2 h
    clear hr21 hI21
    refine wpC_seq ?_
    refine wpC_seq ?_
    refine wpC_region ?_
    refine wpR_val (v := (Value.int .i64 l21)) (w' := w2) rfl rfl rfl (x_move (v := (Value.int .i64 l21)) rfl e12) ?_
    refine wpR_val (v := (Value.int .i64 p2)) (w' := w2) rfl rfl rfl (x_move (v := (Value.int .i64 p2)) rfl e2) ?_
    refine wpR_val (v := (Value.bool (decide (l21 < p2)))) (w' := w2) rfl rfl rfl (x_lss rfl rfl rfl) ?_
    refine wpR_nil ?_
    refine wpC_cond (b := decide (l21 < p2)) rfl (fun hc22 => ?_) (fun hc22 => ?_)
    · replace h := h.1 hc22
      refine wpC_skip ?_
      refine wpC_seq ?_
      refine wpC_block ?_
      refine wpC_cut (fun ρ => ρ 0 = (Value.int .i64 p0) ∧ ρ 1 = (Value.int .i64 p1) ∧ ρ 2 = (Value.int .i64 p2) ∧ ρ 10 = (Value.int .i64 ((IntKind.i64.wrap ((p3.tmod 2147483648) + 2147483648)).tmod 2147483648)) ∧ ρ 11 = (Sl.v r20) ∧ ρ 12 = (Value.int .i64 l21) ∧ True) ⟨e0, e1, e2, e10, e11, e12, trivial⟩ ?_
      rintro ρ ⟨e0, e1, e2, e10, e11, e12, -⟩
      refine wpC_region ?_
      refine wpR_val (v := (Sl.v r20)) (w' := w2) rfl rfl rfl (x_move (v := (Sl.v r20)) rfl e11) ?_
      refine wpR_val (v := (Value.int .i64 l21)) (w' := w2) rfl rfl rfl (x_move (v := (Value.int .i64 l21)) rfl e12) ?_
      refine wpR_val (v := (Value.int .i64 l21)) (w' := w2) rfl rfl rfl (x_move (v := (Value.int .i64 l21)) rfl e12) ?_
      refine wpR_val (v := (Value.int .i64 (IntKind.i64.wrap (l21 + 1)))) (w' := w2) rfl rfl rfl (x_add rfl rfl rfl) ?_
      refine wpR_val (v := (Value.int .i64 p0)) (w' := w2) rfl rfl rfl (x_move (v := (Value.int .i64 p0)) rfl e0) ?_
      refine wpR_val (v := (Value.agg #[(Value.int .i64 (IntKind.i64.wrap (l21 + 1))), (Value.int .i64 p0)])) (w' := w2) rfl rfl rfl (x_build (qs := [(0, (Value.int .i64 (IntKind.i64.wrap (l21 + 1)))), (1, (Value.int .i64 p0))]) rfl (by rfl) (BD_56_0_1 (IntKind.i64.wrap (l21 + 1)) p0 _)) ?_
      obtain ⟨q23, z23, r23, h⟩ := h
      generalize hp23 : z23.add ((l21 : Int).toNat * 2) = p23 at h
      refine wpR_val (v := (Value.pointer (some p23))) (w' := w2) rfl rfl rfl ((x_indexAddr (s := r20) rfl rfl rfl ES_25 q23 r23).trans (by rw [hp23])) ?_
      obtain ⟨q24, h⟩ := h
      obtain ⟨w3, hw24⟩ : ∃ u, u = setAll w2 p23 [(Value.int .i64 (IntKind.i64.wrap (l21 + 1))), (Value.int .i64 p0)] 0 := ⟨_, rfl⟩
      replace h := h w3 hw24
      refine wpR_skp (w' := w3) rfl rfl ((x_store (v := (Value.agg #[(Value.int .i64 (IntKind.i64.wrap (l21 + 1))), (Value.int .i64 p0)])) rfl rfl rfl SZ_56 (ones (by rfl)) q24).trans (by rw [hw24]; rfl)) ?_
      refine wpR_nil ?_
      refine wpC_cut (fun ρ => ρ 0 = (Value.int .i64 p0) ∧ ρ 1 = (Value.int .i64 p1) ∧ ρ 2 = (Value.int .i64 p2) ∧ ρ 10 = (Value.int .i64 ((IntKind.i64.wrap ((p3.tmod 2147483648) + 2147483648)).tmod 2147483648)) ∧ ρ 11 = (Sl.v r20) ∧ ρ 12 = (Value.int .i64 l21) ∧ True) ⟨e0, e1, e2, e10, e11, e12, trivial⟩ ?_
      rintro ρ ⟨e0, e1, e2, e10, e11, e12, -⟩
      refine wpC_region ?_
      refine wpR_val (v := (Value.int .i64 l21)) (w' := w3) rfl rfl rfl (x_move (v := (Value.int .i64 l21)) rfl e12) ?_
      refine wpR_val (v := (Value.int .i64 (IntKind.i64.wrap (l21 + 1)))) (w' := w3) rfl rfl rfl (x_add rfl rfl rfl) ?_
      refine wpR_val (v := (Value.int .i64 (IntKind.i64.wrap (l21 + 1)))) (w' := w3) rfl rfl rfl (x_assign (v := (Value.int .i64 (IntKind.i64.wrap (l21 + 1)))) rfl rfl) ?_
      refine wpR_nil ?_
      exact ⟨IntKind.i64.wrap (l21 + 1), ⟨rfl, e0, e1, e2, e10, e11, trivial⟩, h⟩
    · replace h := h.2 hc22
      refine wpC_exit ?_
      refine wpC_seq ?_
      refine wpC_cut (fun ρ => ρ 1 = (Value.int .i64 p1) ∧ ρ 2 = (Value.int .i64 p2) ∧ ρ 10 = (Value.int .i64 ((IntKind.i64.wrap ((p3.tmod 2147483648) + 2147483648)).tmod 2147483648)) ∧ ρ 11 = (Sl.v r20) ∧ True) ⟨e1, e2, e10, e11, trivial⟩ ?_
      rintro ρ ⟨e1, e2, e10, e11, -⟩
      refine wpC_region ?_
      refine wpR_val (v := (Value.int .i64 p2)) (w' := w2) rfl rfl rfl (x_move (v := (Value.int .i64 p2)) rfl e2) ?_
      obtain ⟨r25, w4, q25, h⟩ := h
      refine wpR_val (v := (Sl.v r25)) (w' := w4) rfl rfl rfl (x_makeSlice rfl rfl rfl q25) ?_
      refine wpR_val (v := (Sl.v r25)) (w' := w4) rfl rfl rfl (x_assign (v := (Sl.v r25)) rfl rfl) ?_
      refine wpR_nil ?_
      refine wpC_seq ?_
      refine wpC_seq ?_
      refine wpC_cut (fun ρ => ρ 1 = (Value.int .i64 p1) ∧ ρ 2 = (Value.int .i64 p2) ∧ ρ 10 = (Value.int .i64 ((IntKind.i64.wrap ((p3.tmod 2147483648) + 2147483648)).tmod 2147483648)) ∧ ρ 11 = (Sl.v r20) ∧ ρ 13 = (Sl.v r25) ∧ True) ⟨e1, e2, e10, e11, rfl, trivial⟩ ?_
      rintro ρ ⟨e1, e2, e10, e11, e13, -⟩
      refine wpC_region ?_
      refine wpR_val (v := (Value.int .i64 0)) (w' := w4) rfl rfl rfl (x_assign (v := (Value.int .i64 0)) rfl rfl) ?_
      refine wpR_nil ?_
      refine wpC_block ?_
      obtain ⟨I26, μ26, hI26, hr26⟩ := h
      refine wpC_loop (fun (x : Int) ρ => ρ 14 = (Value.int .i64 x) ∧ ρ 1 = (Value.int .i64 p1) ∧ ρ 2 = (Value.int .i64 p2) ∧ ρ 10 = (Value.int .i64 ((IntKind.i64.wrap ((p3.tmod 2147483648) + 2147483648)).tmod 2147483648)) ∧ ρ 11 = (Sl.v r20) ∧ ρ 13 = (Sl.v r25) ∧ True) I26 μ26 0 ⟨rfl, e1, e2, e10, e11, e13, trivial⟩ hI26 ?_
      rintro l26 ρ w5 ⟨e14, e1, e2, e10, e11, e13, -⟩ h
      replace h := hr26 l26 w5 h
      clear hr26 hI26
      refine wpC_seq ?_
      refine wpC_seq ?_
      refine wpC_region ?_
      refine wpR_val (v := (Value.int .i64 l26)) (w' := w5) rfl rfl rfl (x_move (v := (Value.int .i64 l26)) rfl e14) ?_
      refine wpR_val (v := (Value.int .i64 p2)) (w' := w5) rfl rfl rfl (x_move (v := (Value.int .i64 p2)) rfl e2) ?_
      refine wpR_val (v := (Value.bool (decide (l26 < p2)))) (w' := w5) rfl rfl rfl (x_lss rfl rfl rfl) ?_
      refine wpR_nil ?_
      refine wpC_cond (b := decide (l26 < p2)) rfl (fun hc27 => ?_) (fun hc27 => ?_)
      · replace h := h.1 hc27
        refine wpC_skip ?_
        refine wpC_seq ?_
        refine wpC_block ?_
        refine wpC_cut (fun ρ => ρ 1 = (Value.int .i64 p1) ∧ ρ 2 = (Value.int .i64 p2) ∧ ρ 10 = (Value.int .i64 ((IntKind.i64.wrap ((p3.tmod 2147483648) + 2147483648)).tmod 2147483648)) ∧ ρ 11 = (Sl.v r20) ∧ ρ 13 = (Sl.v r25) ∧ ρ 14 = (Value.int .i64 l26) ∧ True) ⟨e1, e2, e10, e11, e13, e14, trivial⟩ ?_
        rintro ρ ⟨e1, e2, e10, e11, e13, e14, -⟩
        refine wpC_region ?_
        refine wpR_val (v := (Sl.v r25)) (w' := w5) rfl rfl rfl (x_move (v := (Sl.v r25)) rfl e13) ?_
        refine wpR_val (v := (Value.int .i64 l26)) (w' := w5) rfl rfl rfl (x_move (v := (Value.int .i64 l26)) rfl e14) ?_
        obtain ⟨q28, z28, r28, h⟩ := h
        generalize hp28 : z28.add ((l26 : Int).toNat * 1) = p28 at h
        refine wpR_val (v := (Value.pointer (some p28))) (w' := w5) rfl rfl rfl ((x_indexAddr (s := r25) rfl rfl rfl ES_35 q28 r28).trans (by rw [hp28])) ?_
        obtain ⟨q29, h⟩ := h
        obtain ⟨w6, hw29⟩ : ∃ u, u = setAll w5 p28 [(Value.int .i64 1)] 0 := ⟨_, rfl⟩
        replace h := h w6 hw29
        refine wpR_skp (w' := w6) rfl rfl ((x_store (v := (Value.int .i64 1)) rfl rfl rfl SZ_3 (ones (by rfl)) q29).trans (by rw [hw29]; rfl)) ?_
        refine wpR_nil ?_
        refine wpC_cut (fun ρ => ρ 1 = (Value.int .i64 p1) ∧ ρ 2 = (Value.int .i64 p2) ∧ ρ 10 = (Value.int .i64 ((IntKind.i64.wrap ((p3.tmod 2147483648) + 2147483648)).tmod 2147483648)) ∧ ρ 11 = (Sl.v r20) ∧ ρ 13 = (Sl.v r25) ∧ ρ 14 = (Value.int .i64 l26) ∧ True) ⟨e1, e2, e10, e11, e13, e14, trivial⟩ ?_
        rintro ρ ⟨e1, e2, e10, e11, e13, e14, -⟩
        refine wpC_region ?_
        refine wpR_val (v := (Value.int .i64 l26)) (w' := w6) rfl rfl rfl (x_move (v := (Value.int .i64 l26)) rfl e14) ?_
        refine wpR_val (v := (Value.int .i64 (IntKind.i64.wrap (l26 + 1)))) (w' := w6) rfl rfl rfl (x_add rfl rfl rfl) ?_
        refine wpR_val (v := (Value.int .i64 (IntKind.i64.wrap (l26 + 1)))) (w' := w6) rfl rfl rfl (x_assign (v := (Value.int .i64 (IntKind.i64.wrap (l26 + 1)))) rfl rfl) ?_
        refine wpR_nil ?_
        exact ⟨IntKind.i64.wrap (l26 + 1), ⟨rfl, e1, e2, e10, e11, e13, trivial⟩, h⟩
      · replace h := h.2 hc27
        refine wpC_exit ?_
        refine wpC_seq ?_
        refine wpC_seq ?_
        refine wpC_cut (fun ρ => ρ 1 = (Value.int .i64 p1) ∧ ρ 2 = (Value.int .i64 p2) ∧ ρ 10 = (Value.int .i64 ((IntKind.i64.wrap ((p3.tmod 2147483648) + 2147483648)).tmod 2147483648)) ∧ ρ 11 = (Sl.v r20) ∧ ρ 13 = (Sl.v r25) ∧ True) ⟨e1, e2, e10, e11, e13, trivial⟩ ?_
        rintro ρ ⟨e1, e2, e10, e11, e13, -⟩
        refine wpC_region ?_
        refine wpR_val (v := (Value.int .i64 1)) (w' := w5) rfl rfl rfl (x_assign (v := (Value.int .i64 1)) rfl rfl) ?_
        refine wpR_nil ?_
        refine wpC_block ?_
        obtain ⟨I30, μ30, hI30, hr30⟩ := h
        refine wpC_loop (fun (x : Int × Int) ρ => ρ 10 = (Value.int .i64 x.1) ∧ ρ 15 = (Value.int .i64 x.2) ∧ ρ 1 = (Value.int .i64 p1) ∧ ρ 2 = (Value.int .i64 p2) ∧ ρ 11 = (Sl.v r20) ∧ ρ 13 = (Sl.v r25) ∧ True) I30 μ30 ((IntKind.i64.wrap ((p3.tmod 2147483648) + 2147483648)).tmod 2147483648, 1) ⟨e10, rfl, e1, e2, e11, e13, trivial⟩ hI30 ?_
        rintro l30 ρ w7 ⟨e10, e15, e1, e2, e11, e13, -⟩ h
        replace h := hr30 l30 w7 h
        clear hr30 hI30
        refine wpC_seq ?_
        refine wpC_seq ?_
        refine wpC_region ?_
        refine wpR_val (v := (Value.int .i64 l30.2)) (w' := w7) rfl rfl rfl (x_move (v := (Value.int .i64 l30.2)) rfl e15) ?_
        refine wpR_val (v := (Value.int .i64 p1)) (w' := w7) rfl rfl rfl (x_move (v := (Value.int .i64 p1)) rfl e1) ?_
        refine wpR_val (v := (Value.bool (decide (l30.2 < p1)))) (w' := w7) rfl rfl rfl (x_lss rfl rfl rfl) ?_
        refine wpR_nil ?_
        refine wpC_cond (b := decide (l30.2 < p1)) rfl (fun hc31 => ?_) (fun hc31 => ?_)
        · replace h := h.1 hc31
          refine wpC_skip ?_
          refine wpC_seq ?_
          refine wpC_block ?_
          refine wpC_seq ?_
          refine wpC_cut (fun ρ => ρ 1 = (Value.int .i64 p1) ∧ ρ 2 = (Value.int .i64 p2) ∧ ρ 10 = (Value.int .i64 l30.1) ∧ ρ 11 = (Sl.v r20) ∧ ρ 13 = (Sl.v r25) ∧ ρ 15 = (Value.int .i64 l30.2) ∧ True) ⟨e1, e2, e10, e11, e13, e15, trivial⟩ ?_
          rintro ρ ⟨e1, e2, e10, e11, e13, e15, -⟩
          refine wpC_region ?_
          refine wpR_val (v := (Value.int .i64 l30.1)) (w' := w7) rfl rfl rfl (x_move (v := (Value.int .i64 l30.1)) rfl e10) ?_
          refine wpR_val (v := (Value.int .i64 (IntKind.i64.wrap (1103515245 * l30.1)))) (w' := w7) rfl rfl rfl (x_mul rfl rfl rfl) ?_
          refine wpR_val (v := (Value.int .i64 (IntKind.i64.wrap ((IntKind.i64.wrap (1103515245 * l30.1)) + 12345)))) (w' := w7) rfl rfl rfl (x_add rfl rfl rfl) ?_
          refine wpR_val (v := (Value.int .i64 ((IntKind.i64.wrap ((IntKind.i64.wrap (1103515245 * l30.1)) + 12345)).tmod 2147483648))) (w' := w7) rfl rfl rfl (x_rem rfl rfl rfl (by decide)) ?_
          refine wpR_val (v := (Value.int .i64 ((IntKind.i64.wrap ((IntKind.i64.wrap (1103515245 * l30.1)) + 12345)).tmod 2147483648))) (w' := w7) rfl rfl rfl (x_assign (v := (Value.int .i64 ((IntKind.i64.wrap ((IntKind.i64.wrap (1103515245 * l30.1)) + 12345)).tmod 2147483648))) rfl rfl) ?_
          refine wpR_nil ?_
          refine wpC_seq ?_
          refine wpC_cut (fun ρ => ρ 1 = (Value.int .i64 p1) ∧ ρ 2 = (Value.int .i64 p2) ∧ ρ 10 = (Value.int .i64 ((IntKind.i64.wrap ((IntKind.i64.wrap (1103515245 * l30.1)) + 12345)).tmod 2147483648)) ∧ ρ 11 = (Sl.v r20) ∧ ρ 13 = (Sl.v r25) ∧ ρ 15 = (Value.int .i64 l30.2) ∧ True) ⟨e1, e2, rfl, e11, e13, e15, trivial⟩ ?_
          rintro ρ ⟨e1, e2, e10, e11, e13, e15, -⟩
          refine wpC_region ?_
          refine wpR_val (v := (Value.int .i64 0)) (w' := w7) rfl rfl rfl (x_assign (v := (Value.int .i64 0)) rfl rfl) ?_
          refine wpR_nil ?_
          refine wpC_block ?_
          obtain ⟨I32, μ32, hI32, hr32⟩ := h
          refine wpC_loop (fun (x : Int) ρ => ρ 16 = (Value.int .i64 x) ∧ ρ 1 = (Value.int .i64 p1) ∧ ρ 2 = (Value.int .i64 p2) ∧ ρ 10 = (Value.int .i64 ((IntKind.i64.wrap ((IntKind.i64.wrap (1103515245 * l30.1)) + 12345)).tmod 2147483648)) ∧ ρ 11 = (Sl.v r20) ∧ ρ 13 = (Sl.v r25) ∧ ρ 15 = (Value.int .i64 l30.2) ∧ True) I32 μ32 0 ⟨rfl, e1, e2, e10, e11, e13, e15, trivial⟩ hI32 ?_
          rintro l32 ρ w8 ⟨e16, e1, e2, e10, e11, e13, e15, -⟩ h
          replace h := hr32 l32 w8 h
          clear hr32 hI32
          refine wpC_seq ?_
          refine wpC_seq ?_
          refine wpC_region ?_
          refine wpR_val (v := (Value.int .i64 l32)) (w' := w8) rfl rfl rfl (x_move (v := (Value.int .i64 l32)) rfl e16) ?_
          refine wpR_val (v := (Value.int .i64 p2)) (w' := w8) rfl rfl rfl (x_move (v := (Value.int .i64 p2)) rfl e2) ?_
          refine wpR_val (v := (Value.bool (decide (l32 < p2)))) (w' := w8) rfl rfl rfl (x_lss rfl rfl rfl) ?_
          refine wpR_nil ?_
          refine wpC_cond (b := decide (l32 < p2)) rfl (fun hc33 => ?_) (fun hc33 => ?_)
          · replace h := h.1 hc33
            refine wpC_skip ?_
            refine wpC_seq ?_
            refine wpC_block ?_
            refine wpC_seq ?_
            refine wpC_cut (fun ρ => ρ 1 = (Value.int .i64 p1) ∧ ρ 2 = (Value.int .i64 p2) ∧ ρ 10 = (Value.int .i64 ((IntKind.i64.wrap ((IntKind.i64.wrap (1103515245 * l30.1)) + 12345)).tmod 2147483648)) ∧ ρ 11 = (Sl.v r20) ∧ ρ 13 = (Sl.v r25) ∧ ρ 15 = (Value.int .i64 l30.2) ∧ ρ 16 = (Value.int .i64 l32) ∧ True) ⟨e1, e2, e10, e11, e13, e15, e16, trivial⟩ ?_
            rintro ρ ⟨e1, e2, e10, e11, e13, e15, e16, -⟩
            refine wpC_region ?_
            refine wpR_val (v := (Sl.v r25)) (w' := w8) rfl rfl rfl (x_move (v := (Sl.v r25)) rfl e13) ?_
            refine wpR_val (v := (Value.int .i64 l32)) (w' := w8) rfl rfl rfl (x_move (v := (Value.int .i64 l32)) rfl e16) ?_
            refine wpR_val (v := (Sl.v r25)) (w' := w8) rfl rfl rfl (x_move (v := (Sl.v r25)) rfl e13) ?_
            refine wpR_val (v := (Value.int .i64 l32)) (w' := w8) rfl rfl rfl (x_move (v := (Value.int .i64 l32)) rfl e16) ?_
            obtain ⟨q34, z34, r34, h⟩ := h
            generalize hp34 : z34.add ((l32 : Int).toNat * 1) = p34 at h
            refine wpR_val (v := (Value.pointer (some p34))) (w' := w8) rfl rfl rfl ((x_indexAddr (s := r25) rfl rfl rfl ES_35 q34 r34).trans (by rw [hp34])) ?_
            obtain ⟨x35, q35, h⟩ := h
            refine wpR_val (v := (Value.int .i64 x35)) (w' := w8) rfl rfl rfl (x_load1 rfl rfl SH_3 q35) ?_
            refine wpR_val (v := (Value.int .i64 l32)) (w' := w8) rfl rfl rfl (x_move (v := (Value.int .i64 l32)) rfl e16) ?_
            refine wpR_val (v := (Value.int .i64 (IntKind.i64.wrap (l32 + 1)))) (w' := w8) rfl rfl rfl (x_add rfl rfl rfl) ?_
            refine wpR_val (v := (Value.int .i64 (IntKind.i64.wrap (x35 * (IntKind.i64.wrap (l32 + 1)))))) (w' := w8) rfl rfl rfl (x_mul rfl rfl rfl) ?_
            refine wpR_val (v := (Value.int .i64 ((IntKind.i64.wrap (x35 * (IntKind.i64.wrap (l32 + 1)))).tmod 2147483647))) (w' := w8) rfl rfl rfl (x_rem rfl rfl rfl (by decide)) ?_
            obtain ⟨q36, z36, r36, h⟩ := h
            generalize hp36 : z36.add ((l32 : Int).toNat * 1) = p36 at h
            refine wpR_val (v := (Value.pointer (some p36))) (w' := w8) rfl rfl rfl ((x_indexAddr (s := r25) rfl rfl rfl ES_35 q36 r36).trans (by rw [hp36])) ?_
            obtain ⟨q37, h⟩ := h
            obtain ⟨w9, hw37⟩ : ∃ u, u = setAll w8 p36 [(Value.int .i64 ((IntKind.i64.wrap (x35 * (IntKind.i64.wrap (l32 + 1)))).tmod 2147483647))] 0 := ⟨_, rfl⟩
            replace h := h w9 hw37
            refine wpR_skp (w' := w9) rfl rfl ((x_store (v := (Value.int .i64 ((IntKind.i64.wrap (x35 * (IntKind.i64.wrap (l32 + 1)))).tmod 2147483647))) rfl rfl rfl SZ_3 (ones (by rfl)) q37).trans (by rw [hw37]; rfl)) ?_
            refine wpR_nil ?_
            refine wpC_cut (fun ρ => ρ 1 = (Value.int .i64 p1) ∧ ρ 2 = (Value.int .i64 p2) ∧ ρ 10 = (Value.int .i64 ((IntKind.i64.wrap ((IntKind.i64.wrap (1103515245 * l30.1)) + 12345)).tmod 2147483648)) ∧ ρ 11 = (Sl.v r20) ∧ ρ 13 = (Sl.v r25) ∧ ρ 15 = (Value.int .i64 l30.2) ∧ ρ 16 = (Value.int .i64 l32) ∧ True) ⟨e1, e2, e10, e11, e13, e15, e16, trivial⟩ ?_
            rintro ρ ⟨e1, e2, e10, e11, e13, e15, e16, -⟩
            obtain ⟨J39, h, hk⟩ := h
            refine wpC_drawJ (by kernel_rfl) (fun (x : Unit) ρ => ρ 1 = (Value.int .i64 p1) ∧ ρ 2 = (Value.int .i64 p2) ∧ ρ 10 = (Value.int .i64 ((IntKind.i64.wrap ((IntKind.i64.wrap (1103515245 * l30.1)) + 12345)).tmod 2147483648)) ∧ ρ 11 = (Sl.v r20) ∧ ρ 13 = (Sl.v r25) ∧ ρ 15 = (Value.int .i64 l30.2) ∧ ρ 16 = (Value.int .i64 l32) ∧ True) J39 ?_ ?_
            · clear hk
              unfold tk at h
              generalize w9.drew = w10 at h ⊢
              refine wpD_take (v := (Sl.v r20)) 0 (fun _ => True) rfl (by kernel_rfl) (by kernel_rfl) (by kernel_rfl) rfl rfl rfl trivial (fun w _ => (x_move (v := (Sl.v r20)) rfl e11)) ?_
              refine wpD_take (v := (Value.int .i64 l32)) 1 (fun _ => True) rfl (by kernel_rfl) (by kernel_rfl) (by kernel_rfl) rfl rfl rfl trivial (fun w _ => (x_move (v := (Value.int .i64 l32)) rfl e16)) ?_
              refine wpD_take (v := (Sl.v r20)) 2 (fun _ => True) rfl (by kernel_rfl) (by kernel_rfl) (by kernel_rfl) rfl rfl rfl trivial (fun w _ => (x_move (v := (Sl.v r20)) rfl e11)) ?_
              refine wpD_take (v := (Value.int .i64 l32)) 3 (fun _ => True) rfl (by kernel_rfl) (by kernel_rfl) (by kernel_rfl) rfl rfl rfl trivial (fun w _ => (x_move (v := (Value.int .i64 l32)) rfl e16)) ?_
              obtain ⟨q40, z40, r40, h⟩ := h
              generalize hp40 : z40.add ((l32 : Int).toNat * 2) = p40 at h
              refine wpD_take (v := (Value.pointer (some p40))) 4 (fun _ => True) rfl (by kernel_rfl) (by kernel_rfl) (by kernel_rfl) rfl rfl rfl trivial (fun w _ => ((x_indexAddr (s := r20) rfl rfl rfl ES_25 q40 r40).trans (by rw [hp40]))) ?_
              refine wpD_take (v := (Value.pointer (some (p40.add 1)))) 5 (fun _ => True) rfl (by kernel_rfl) (by kernel_rfl) (by kernel_rfl) rfl rfl rfl trivial (fun w _ => (x_fieldAddr rfl rfl FA_56_1)) ?_
              obtain ⟨x41, q41, h⟩ := h
              refine wpD_take (v := (Value.int .i64 x41)) 6 (fun w => w.cell? (p40.add 1) = some (Value.int .i64 x41)) rfl (by kernel_rfl) (by kernel_rfl) (by kernel_rfl) rfl rfl rfl q41 (fun w q41 => (x_load1 rfl rfl SH_3 q41)) ?_
              refine wpD_take (v := (Value.int .i64 ((IntKind.i64.wrap ((IntKind.i64.wrap (1103515245 * l30.1)) + 12345)).tmod 2147483648))) 7 (fun _ => True) rfl (by kernel_rfl) (by kernel_rfl) (by kernel_rfl) rfl rfl rfl trivial (fun w _ => (x_move (v := (Value.int .i64 ((IntKind.i64.wrap ((IntKind.i64.wrap (1103515245 * l30.1)) + 12345)).tmod 2147483648))) rfl e10)) ?_
              refine wpD_take (v := (Value.int .i64 (((IntKind.i64.wrap ((IntKind.i64.wrap (1103515245 * l30.1)) + 12345)).tmod 2147483648).tmod 2147483647))) 8 (fun _ => True) rfl (by kernel_rfl) (by kernel_rfl) (by kernel_rfl) rfl rfl rfl trivial (fun w _ => (x_rem rfl rfl rfl (by decide))) ?_
              refine wpD_take (v := (Sl.v r25)) 9 (fun _ => True) rfl (by kernel_rfl) (by kernel_rfl) (by kernel_rfl) rfl rfl rfl trivial (fun w _ => (x_move (v := (Sl.v r25)) rfl e13)) ?_
              refine wpD_take (v := (Value.int .i64 l32)) 10 (fun _ => True) rfl (by kernel_rfl) (by kernel_rfl) (by kernel_rfl) rfl rfl rfl trivial (fun w _ => (x_move (v := (Value.int .i64 l32)) rfl e16)) ?_
              obtain ⟨q42, z42, r42, h⟩ := h
              generalize hp42 : z42.add ((l32 : Int).toNat * 1) = p42 at h
              refine wpD_take (v := (Value.pointer (some p42))) 11 (fun _ => True) rfl (by kernel_rfl) (by kernel_rfl) (by kernel_rfl) rfl rfl rfl trivial (fun w _ => ((x_indexAddr (s := r25) rfl rfl rfl ES_35 q42 r42).trans (by rw [hp42]))) ?_
              obtain ⟨x43, q43, h⟩ := h
              refine wpD_take (v := (Value.int .i64 x43)) 12 (fun w => w.cell? p42 = some (Value.int .i64 x43)) rfl (by kernel_rfl) (by kernel_rfl) (by kernel_rfl) rfl rfl rfl q43 (fun w q43 => (x_load1 rfl rfl SH_3 q43)) ?_
              refine wpD_take (v := (Value.int .i64 (IntKind.i64.wrap ((((IntKind.i64.wrap ((IntKind.i64.wrap (1103515245 * l30.1)) + 12345)).tmod 2147483648).tmod 2147483647) * x43)))) 13 (fun _ => True) rfl (by kernel_rfl) (by kernel_rfl) (by kernel_rfl) rfl rfl rfl trivial (fun w _ => (x_mul rfl rfl rfl)) ?_
              refine wpD_take (v := (Value.int .i64 (IntKind.i64.wrap (x41 + (IntKind.i64.wrap ((((IntKind.i64.wrap ((IntKind.i64.wrap (1103515245 * l30.1)) + 12345)).tmod 2147483648).tmod 2147483647) * x43)))))) 14 (fun _ => True) rfl (by kernel_rfl) (by kernel_rfl) (by kernel_rfl) rfl rfl rfl trivial (fun w _ => (x_add rfl rfl rfl)) ?_
              refine wpD_take (v := (Value.int .i64 ((IntKind.i64.wrap (x41 + (IntKind.i64.wrap ((((IntKind.i64.wrap ((IntKind.i64.wrap (1103515245 * l30.1)) + 12345)).tmod 2147483648).tmod 2147483647) * x43)))).tmod 2147483647))) 15 (fun _ => True) rfl (by kernel_rfl) (by kernel_rfl) (by kernel_rfl) rfl rfl rfl trivial (fun w _ => (x_rem rfl rfl rfl (by decide))) ?_
              obtain ⟨q44, z44, r44, h⟩ := h
              generalize hp44 : z44.add ((l32 : Int).toNat * 2) = p44 at h
              refine wpD_take (v := (Value.pointer (some p44))) 16 (fun _ => True) rfl (by kernel_rfl) (by kernel_rfl) (by kernel_rfl) rfl rfl rfl trivial (fun w _ => ((x_indexAddr (s := r20) rfl rfl rfl ES_25 q44 r44).trans (by rw [hp44]))) ?_
              refine wpD_take (v := (Value.pointer (some (p44.add 1)))) 17 (fun _ => True) rfl (by kernel_rfl) (by kernel_rfl) (by kernel_rfl) rfl rfl rfl trivial (fun w _ => (x_fieldAddr rfl rfl FA_56_1)) ?_
              refine wpD_all (rs := [18]) (by kernel_rfl) (by simp) (allD_cons ?_ allD_nil)
              obtain ⟨q45, h⟩ := h
              obtain ⟨w11, hw45⟩ : ∃ u, u = setAll w10 (p44.add 1) [(Value.int .i64 ((IntKind.i64.wrap (x41 + (IntKind.i64.wrap ((((IntKind.i64.wrap ((IntKind.i64.wrap (1103515245 * l30.1)) + 12345)).tmod 2147483648).tmod 2147483647) * x43)))).tmod 2147483647))] 0 := ⟨_, rfl⟩
              replace h := h w11 hw45
              refine stepD_skpL (L' := [(16, fun _ => True)]) (w' := w11) rfl rfl rfl ((x_store (v := (Value.int .i64 ((IntKind.i64.wrap (x41 + (IntKind.i64.wrap ((((IntKind.i64.wrap ((IntKind.i64.wrap (1103515245 * l30.1)) + 12345)).tmod 2147483648).tmod 2147483647) * x43)))).tmod 2147483647))) rfl rfl rfl SZ_3 (ones (by rfl)) q45).trans (by rw [hw45]; rfl)) (by kernel_rfl) (held_cons trivial held_nil) ?_
              exact wpD_done (by kernel_rfl) ⟨(), ⟨e1, e2, e10, e11, e13, e15, e16, trivial⟩, h⟩
            clear h
            rintro l46 ρ w12 ⟨e1, e2, e10, e11, e13, e15, e16, -⟩ h
            replace h := hk l46 w12 h
            clear hk
            refine wpC_region ?_
            refine wpR_val (v := (Value.int .i64 l32)) (w' := w12) rfl rfl rfl (x_move (v := (Value.int .i64 l32)) rfl e16) ?_
            refine wpR_val (v := (Value.int .i64 (IntKind.i64.wrap (l32 + 1)))) (w' := w12) rfl rfl rfl (x_add rfl rfl rfl) ?_
            refine wpR_val (v := (Value.int .i64 (IntKind.i64.wrap (l32 + 1)))) (w' := w12) rfl rfl rfl (x_assign (v := (Value.int .i64 (IntKind.i64.wrap (l32 + 1)))) rfl rfl) ?_
            refine wpR_nil ?_
            exact ⟨IntKind.i64.wrap (l32 + 1), ⟨rfl, e1, e2, e10, e11, e13, e15, trivial⟩, h⟩
          · replace h := h.2 hc33
            refine wpC_exit ?_
            refine wpC_cut (fun ρ => ρ 1 = (Value.int .i64 p1) ∧ ρ 2 = (Value.int .i64 p2) ∧ ρ 10 = (Value.int .i64 ((IntKind.i64.wrap ((IntKind.i64.wrap (1103515245 * l30.1)) + 12345)).tmod 2147483648)) ∧ ρ 11 = (Sl.v r20) ∧ ρ 13 = (Sl.v r25) ∧ ρ 15 = (Value.int .i64 l30.2) ∧ True) ⟨e1, e2, e10, e11, e13, e15, trivial⟩ ?_
            rintro ρ ⟨e1, e2, e10, e11, e13, e15, -⟩
            refine wpC_region ?_
            refine wpR_val (v := (Value.int .i64 l30.2)) (w' := w8) rfl rfl rfl (x_move (v := (Value.int .i64 l30.2)) rfl e15) ?_
            refine wpR_val (v := (Value.int .i64 (IntKind.i64.wrap (l30.2 + 1)))) (w' := w8) rfl rfl rfl (x_add rfl rfl rfl) ?_
            refine wpR_val (v := (Value.int .i64 (IntKind.i64.wrap (l30.2 + 1)))) (w' := w8) rfl rfl rfl (x_assign (v := (Value.int .i64 (IntKind.i64.wrap (l30.2 + 1)))) rfl rfl) ?_
            refine wpR_nil ?_
            exact ⟨((IntKind.i64.wrap ((IntKind.i64.wrap (1103515245 * l30.1)) + 12345)).tmod 2147483648, IntKind.i64.wrap (l30.2 + 1)), ⟨e10, rfl, e1, e2, e11, e13, trivial⟩, h⟩
        · replace h := h.2 hc31
          refine wpC_exit ?_
          refine wpC_seq ?_
          refine wpC_cut (fun ρ => ρ 11 = (Sl.v r20) ∧ True) ⟨e11, trivial⟩ ?_
          rintro ρ ⟨e11, -⟩
          refine wpC_region ?_
          refine wpR_val (v := (Sl.v r20)) (w' := w7) rfl rfl rfl (x_move (v := (Sl.v r20)) rfl e11) ?_
          refine wpR_val (v := (Sl.v r20)) (w' := w7) rfl rfl rfl (x_assign (v := (Sl.v r20)) rfl rfl) ?_
          refine wpR_val (v := (Value.int .i64 0)) (w' := w7) rfl rfl rfl (x_assign (v := (Value.int .i64 0)) rfl rfl) ?_
          refine wpR_nil ?_
          refine wpC_ret ?_
          exact ⟨.inl rfl, fun a ha => ⟨_, results_rep2 rfl ha rfl rfl, (r20, 0), rfl, h⟩⟩

/-- linguaref06.Join -/
def F35 (p0 : Sl) (p1 : Int) (w0 : World) (K : (Int × Int) → World → Prop) : Prop :=
  callC Try.prog 40 #[(Sl.v p0), (Value.int .i64 p1)] (fun (r : Int) => (Value.int .i64 r)) w0 fun r9 w1 =>
  cnd (!decide (r9 = 0))
    (
    K (0, r9) w1
    )
    (
    cnd (decide ((p0.len : Int) < p1))
      (
      K (0, 20) w1
      )
      (
      callC Try.prog 41 #[(Sl.v p0), (Value.int .i64 p1)] (fun (r : Int × Bool) => (Value.tuple #[(Value.int .i64 r.1), (Value.bool r.2)])) w1 fun r12 w2 =>
      cnd (!r12.2)
        (
        K (0, 18) w2
        )
        (
        K (r12.1, 0) w2
        )
      )
    )
set_option maxRecDepth 100000 in
theorem D35 (p0 : Sl) (p1 : Int) (w0 : World) (K : (Int × Int) → World → Prop) (h : F35 p0 p1 w0 K) : callC Try.prog 35 #[(Sl.v p0), (Value.int .i64 p1)] (fun (r : Int × Int) => (Value.tuple #[(Value.int .i64 r.1), (Value.int .i64 r.2)])) w0 K := by
  unfold F35 at h
  refine calls_of_wpC Try.func35 rfl 28 rfl (by simp) ?_
  intro ρ hρ
  have e0 : ρ 0 = (Sl.v p0) := hρ 0
  have e1 : ρ 1 = (Value.int .i64 p1) := hρ 1
  clear hρ
  refine wpC_seq ?_
  refine wpC_region ?_
  refine wpR_val (v := (Value.int .i64 0)) (w' := w0) rfl rfl rfl (x_assign (v := (Value.int .i64 0)) rfl rfl) ?_
  refine wpR_val (v := (Value.int .i64 0)) (w' := w0) rfl rfl rfl (x_assign (v := (Value.int .i64 0)) rfl rfl) ?_
  refine wpR_nil ?_
  refine wpC_seq ?_
  refine wpC_cut (fun ρ => ρ 0 = (Sl.v p0) ∧ ρ 1 = (Value.int .i64 p1) ∧ True) ⟨e0, e1, trivial⟩ ?_
  rintro ρ ⟨e0, e1, -⟩
  refine wpC_region ?_
  refine wpR_val (v := (Sl.v p0)) (w' := w0) rfl rfl rfl (x_move (v := (Sl.v p0)) rfl e0) ?_
  refine wpR_val (v := (Value.int .i64 p1)) (w' := w0) rfl rfl rfl (x_move (v := (Value.int .i64 p1)) rfl e1) ?_
  refine wpR_enter rfl rfl rfl (x_call (vs := [(Sl.v p0), (Value.int .i64 p1)]) rfl rfl (mapl_cons rfl (mapl_cons rfl mapl_nil)) Try.func40 NN_40 NB_40) (Calls.mono h ?_)
  rintro _ w1 ⟨r9, rfl, h⟩
  refine ⟨_, rfl, ?_⟩
  refine wpR_val (v := (Value.int .i64 r9)) (w' := w1) rfl rfl rfl (x_assign (v := (Value.int .i64 r9)) rfl rfl) ?_
  refine wpR_nil ?_
  refine wpC_seq ?_
  refine wpC_seq ?_
  refine wpC_cut (fun ρ => ρ 0 = (Sl.v p0) ∧ ρ 1 = (Value.int .i64 p1) ∧ ρ 6 = (Value.int .i64 r9) ∧ True) ⟨e0, e1, rfl, trivial⟩ ?_
  rintro ρ ⟨e0, e1, e6, -⟩
  refine wpC_region ?_
  refine wpR_val (v := (Value.int .i64 r9)) (w' := w1) rfl rfl rfl (x_move (v := (Value.int .i64 r9)) rfl e6) ?_
  refine wpR_val (v := (Value.bool (!decide (r9 = 0)))) (w' := w1) rfl rfl rfl (x_neq rfl rfl rfl) ?_
  refine wpR_nil ?_
  refine wpC_cond (b := !decide (r9 = 0)) rfl (fun hc10 => ?_) (fun hc10 => ?_)
  · replace h := h.1 hc10
    refine wpC_seq ?_
    refine wpC_cut (fun ρ => ρ 6 = (Value.int .i64 r9) ∧ True) ⟨e6, trivial⟩ ?_
    rintro ρ ⟨e6, -⟩
    refine wpC_region ?_
    refine wpR_val (v := (Value.int .i64 r9)) (w' := w1) rfl rfl rfl (x_move (v := (Value.int .i64 r9)) rfl e6) ?_
    refine wpR_val (v := (Value.int .i64 0)) (w' := w1) rfl rfl rfl (x_assign (v := (Value.int .i64 0)) rfl rfl) ?_
    refine wpR_val (v := (Value.int .i64 r9)) (w' := w1) rfl rfl rfl (x_assign (v := (Value.int .i64 r9)) rfl rfl) ?_
    refine wpR_nil ?_
    refine wpC_ret ?_
    exact ⟨.inl rfl, fun a ha => ⟨_, results_rep2 rfl ha rfl rfl, (0, r9), rfl, h⟩⟩
  · replace h := h.2 hc10
    refine wpC_skip ?_
    refine wpC_seq ?_
    refine wpC_seq ?_
    refine wpC_cut (fun ρ => ρ 0 = (Sl.v p0) ∧ ρ 1 = (Value.int .i64 p1) ∧ True) ⟨e0, e1, trivial⟩ ?_
    rintro ρ ⟨e0, e1, -⟩
    refine wpC_region ?_
    refine wpR_val (v := (Sl.v p0)) (w' := w1) rfl rfl rfl (x_move (v := (Sl.v p0)) rfl e0) ?_
    refine wpR_val (v := (Value.int .i64 (p0.len : Int))) (w' := w1) rfl rfl rfl (x_lenS (s := p0) rfl rfl isSliceT_25) ?_
    refine wpR_val (v := (Value.int .i64 p1)) (w' := w1) rfl rfl rfl (x_move (v := (Value.int .i64 p1)) rfl e1) ?_
    refine wpR_val (v := (Value.bool (decide ((p0.len : Int) < p1)))) (w' := w1) rfl rfl rfl (x_lss rfl rfl rfl) ?_
    refine wpR_nil ?_
    refine wpC_cond (b := decide ((p0.len : Int) < p1)) rfl (fun hc11 => ?_) (fun hc11 => ?_)
    · replace h := h.1 hc11
      refine wpC_seq ?_
      refine wpC_cut (fun ρ => True) trivial ?_
      rintro ρ -
      refine wpC_region ?_
      refine wpR_val (v := (Value.int .i64 0)) (w' := w1) rfl rfl rfl (x_assign (v := (Value.int .i64 0)) rfl rfl) ?_
      refine wpR_val (v := (Value.int .i64 20)) (w' := w1) rfl rfl rfl (x_assign (v := (Value.int .i64 20)) rfl rfl) ?_
      refine wpR_nil ?_
      refine wpC_ret ?_
      exact ⟨.inl rfl, fun a ha => ⟨_, results_rep2 rfl ha rfl rfl, (0, 20), rfl, h⟩⟩
    · replace h := h.2 hc11
      refine wpC_skip ?_
      refine wpC_seq ?_
      refine wpC_cut (fun ρ => ρ 0 = (Sl.v p0) ∧ ρ 1 = (Value.int .i64 p1) ∧ True) ⟨e0, e1, trivial⟩ ?_
      rintro ρ ⟨e0, e1, -⟩
      refine wpC_region ?_
      refine wpR_val (v := (Sl.v p0)) (w' := w1) rfl rfl rfl (x_move (v := (Sl.v p0)) rfl e0) ?_
      refine wpR_val (v := (Value.int .i64 p1)) (w' := w1) rfl rfl rfl (x_move (v := (Value.int .i64 p1)) rfl e1) ?_
      refine wpR_enter rfl rfl rfl (x_call (vs := [(Sl.v p0), (Value.int .i64 p1)]) rfl rfl (mapl_cons rfl (mapl_cons rfl mapl_nil)) Try.func41 NN_41 NB_41) (Calls.mono h ?_)
      rintro _ w2 ⟨r12, rfl, h⟩
      refine ⟨_, rfl, ?_⟩
      refine wpR_val (v := (Value.tuple #[(Value.int .i64 r12.1), (Value.bool r12.2)])) (w' := w2) rfl rfl rfl (x_move (v := (Value.tuple #[(Value.int .i64 r12.1), (Value.bool r12.2)])) rfl rfl) ?_
      refine wpR_val (v := (Value.int .i64 r12.1)) (w' := w2) rfl rfl rfl (x_extract rfl rfl rfl) ?_
      refine wpR_val (v := (Value.bool r12.2)) (w' := w2) rfl rfl rfl (x_extract rfl rfl rfl) ?_
      refine wpR_val (v := (Value.int .i64 r12.1)) (w' := w2) rfl rfl rfl (x_assign (v := (Value.int .i64 r12.1)) rfl rfl) ?_
      refine wpR_val (v := (Value.bool r12.2)) (w' := w2) rfl rfl rfl (x_assign (v := (Value.bool r12.2)) rfl rfl) ?_
      refine wpR_nil ?_
      refine wpC_seq ?_
      refine wpC_seq ?_
      refine wpC_cut (fun ρ => ρ 7 = (Value.int .i64 r12.1) ∧ ρ 8 = (Value.bool r12.2) ∧ True) ⟨rfl, rfl, trivial⟩ ?_
      rintro ρ ⟨e7, e8, -⟩
      refine wpC_region ?_
      refine wpR_val (v := (Value.bool r12.2)) (w' := w2) rfl rfl rfl (x_move (v := (Value.bool r12.2)) rfl e8) ?_
      refine wpR_val (v := (Value.bool (!r12.2))) (w' := w2) rfl rfl rfl (x_not rfl rfl) ?_
      refine wpR_nil ?_
      refine wpC_cond (b := !r12.2) rfl (fun hc13 => ?_) (fun hc13 => ?_)
      · replace h := h.1 hc13
        refine wpC_seq ?_
        refine wpC_cut (fun ρ => True) trivial ?_
        rintro ρ -
        refine wpC_region ?_
        refine wpR_val (v := (Value.int .i64 0)) (w' := w2) rfl rfl rfl (x_assign (v := (Value.int .i64 0)) rfl rfl) ?_
        refine wpR_val (v := (Value.int .i64 18)) (w' := w2) rfl rfl rfl (x_assign (v := (Value.int .i64 18)) rfl rfl) ?_
        refine wpR_nil ?_
        refine wpC_ret ?_
        exact ⟨.inl rfl, fun a ha => ⟨_, results_rep2 rfl ha rfl rfl, (0, 18), rfl, h⟩⟩
      · replace h := h.2 hc13
        refine wpC_skip ?_
        refine wpC_seq ?_
        refine wpC_cut (fun ρ => ρ 7 = (Value.int .i64 r12.1) ∧ True) ⟨e7, trivial⟩ ?_
        rintro ρ ⟨e7, -⟩
        refine wpC_region ?_
        refine wpR_val (v := (Value.int .i64 r12.1)) (w' := w2) rfl rfl rfl (x_move (v := (Value.int .i64 r12.1)) rfl e7) ?_
        refine wpR_val (v := (Value.int .i64 r12.1)) (w' := w2) rfl rfl rfl (x_assign (v := (Value.int .i64 r12.1)) rfl rfl) ?_
        refine wpR_val (v := (Value.int .i64 0)) (w' := w2) rfl rfl rfl (x_assign (v := (Value.int .i64 0)) rfl rfl) ?_
        refine wpR_nil ?_
        refine wpC_ret ?_
        exact ⟨.inl rfl, fun a ha => ⟨_, results_rep2 rfl ha rfl rfl, (r12.1, 0), rfl, h⟩⟩

/-- (*vault.Vault).Copy -/
def F36 (p0 : Option Addr) (w0 : World) (K : (Option Addr) → World → Prop) : Prop :=
  jn (fun (J10 : (Option Addr) → World → Prop) => tk w0 fun w1 =>
    nn p0 fun a11 =>
    ld Sl.v (a11.add 0) w1 fun x12 =>
    nn p0 fun a13 =>
    ld Sl.v (a13.add 1) w1 fun x14 =>
    callC Try.prog 42 #[(Sl.v x12)] (fun (r : Sl) => (Sl.v r)) w1 fun r15 w2 =>
    (w2.cell? (a13.add 1) = some (Sl.v x14)) ∧
    callC Try.prog 43 #[(Sl.v x14)] (fun (r : Sl) => (Sl.v r)) w2 fun r16 w3 =>
    nw 81 #[(Sl.v r15), (Sl.v r16)] w3 fun b17 w4 =>
    J10 (some (Addr.mk b17 0 none)) w4
  )
  fun l18 w5 =>
  K l18 w5
set_option maxRecDepth 100000 in
theorem D36 (p0 : Option Addr) (w0 : World) (K : (Option Addr) → World → Prop) (h : F36 p0 w0 K) : callC Try.prog 36 #[(Value.pointer p0)] (fun (r : (Option Addr)) => (Value.pointer r)) w0 K := by
  unfold F36 at h
  refine calls_of_wpC Try.func36 rfl 15 rfl (by simp) ?_
  intro ρ hρ
  have e0 : ρ 0 = (Value.pointer p0) := hρ 0
  clear hρ
  refine wpC_seq ?_
  refine wpC_region ?_
  refine wpR_val (v := (Value.pointer none)) (w' := w0) rfl rfl rfl (x_assign (v := (Value.pointer none)) rfl rfl) ?_
  refine wpR_nil ?_
  refine wpC_seq ?_
  refine wpC_cut (fun ρ => ρ 0 = (Value.pointer p0) ∧ True) ⟨e0, trivial⟩ ?_
  rintro ρ ⟨e0, -⟩
  obtain ⟨J10, h, hk⟩ := h
  refine wpC_drawJ (by kernel_rfl) (fun (x : (Option Addr)) ρ => ρ 2 = (Value.pointer x) ∧ True) J10 ?_ ?_
  · clear hk
    unfold tk at h
    generalize w0.drew = w1 at h ⊢
    refine wpD_take (v := (Value.pointer p0)) 0 (fun _ => True) rfl (by kernel_rfl) (by kernel_rfl) (by kernel_rfl) rfl rfl rfl trivial (fun w _ => (x_move (v := (Value.pointer p0)) rfl e0)) ?_
    obtain ⟨a11, q11, h⟩ := h
    refine wpD_take (v := (Value.pointer (some a11))) 1 (fun _ => True) rfl (by kernel_rfl) (by kernel_rfl) (by kernel_rfl) rfl rfl rfl trivial (fun w _ => (x_nilCheck rfl rfl q11)) ?_
    refine wpD_take (v := (Value.pointer (some (a11.add 0)))) 2 (fun _ => True) rfl (by kernel_rfl) (by kernel_rfl) (by kernel_rfl) rfl rfl rfl trivial (fun w _ => (x_fieldAddr rfl rfl FA_81_0)) ?_
    obtain ⟨x12, q12, h⟩ := h
    refine wpD_take (v := (Sl.v x12)) 3 (fun w => w.cell? (a11.add 0) = some (Sl.v x12)) rfl (by kernel_rfl) (by kernel_rfl) (by kernel_rfl) rfl rfl rfl q12 (fun w q12 => (x_load1 rfl rfl SH_78 q12)) ?_
    refine wpD_take (v := (Value.pointer p0)) 5 (fun _ => True) rfl (by kernel_rfl) (by kernel_rfl) (by kernel_rfl) rfl rfl rfl trivial (fun w _ => (x_move (v := (Value.pointer p0)) rfl e0)) ?_
    obtain ⟨a13, q13, h⟩ := h
    refine wpD_take (v := (Value.pointer (some a13))) 6 (fun _ => True) rfl (by kernel_rfl) (by kernel_rfl) (by kernel_rfl) rfl rfl rfl trivial (fun w _ => (x_nilCheck rfl rfl q13)) ?_
    refine wpD_take (v := (Value.pointer (some (a13.add 1)))) 7 (fun _ => True) rfl (by kernel_rfl) (by kernel_rfl) (by kernel_rfl) rfl rfl rfl trivial (fun w _ => (x_fieldAddr rfl rfl FA_81_1)) ?_
    obtain ⟨x14, q14, h⟩ := h
    refine wpD_take (v := (Sl.v x14)) 8 (fun w => w.cell? (a13.add 1) = some (Sl.v x14)) rfl (by kernel_rfl) (by kernel_rfl) (by kernel_rfl) rfl rfl rfl q14 (fun w q14 => (x_load1 rfl rfl SH_79 q14)) ?_
    refine wpD_all (rs := [4]) (by kernel_rfl) (by simp) (allD_cons ?_ allD_nil)
    refine stepD_enterL (L' := [(8, fun w => w.cell? (a13.add 1) = some (Sl.v x14)), (7, fun _ => True), (6, fun _ => True), (5, fun _ => True), (2, fun _ => True), (1, fun _ => True), (0, fun _ => True)]) rfl rfl rfl rfl (x_call (vs := [(Sl.v x12)]) rfl rfl (mapl_cons rfl mapl_nil) Try.func42 NN_42 NB_42) (by kernel_rfl) (Calls.mono h ?_)
    rintro _ w2 ⟨r15, rfl, h⟩
    obtain ⟨o8, h⟩ := h
    refine ⟨_, rfl, (held_cons o8 (held_cons trivial (held_cons trivial (held_cons trivial (held_cons trivial (held_cons trivial (held_cons trivial held_nil))))))), ?_⟩
    refine wpD_all (rs := [9]) (by kernel_rfl) (by simp) (allD_cons ?_ allD_nil)
    refine stepD_enterL (L' := [(7, fun _ => True), (6, fun _ => True), (5, fun _ => True), (2, fun _ => True), (1, fun _ => True), (0, fun _ => True)]) rfl rfl rfl rfl (x_call (vs := [(Sl.v x14)]) rfl rfl (mapl_cons rfl mapl_nil) Try.func43 NN_43 NB_43) (by kernel_rfl) (Calls.mono h ?_)
    rintro _ w3 ⟨r16, rfl, h⟩
    refine ⟨_, rfl, (held_cons trivial (held_cons trivial (held_cons trivial (held_cons trivial (held_cons trivial (held_cons trivial held_nil)))))), ?_⟩
    refine wpD_take (v := (Value.agg #[(Sl.v r15), (Sl.v r16)])) 10 (fun _ => True) rfl (by kernel_rfl) (by kernel_rfl) (by kernel_rfl) rfl rfl rfl trivial (fun w _ => (x_build (qs := [(0, (Sl.v r15)), (1, (Sl.v r16))]) rfl (by rfl) (BD_81_0_1 r15 r16 _))) ?_
    refine wpD_all (rs := [11]) (by kernel_rfl) (by simp) (allD_cons ?_ allD_nil)
    obtain ⟨b17, hb17⟩ : ∃ u, u = w3.heap.size := ⟨_, rfl⟩
    obtain ⟨w4, hw17⟩ : ∃ u, u = w3.alloc (.cells #[(Sl.v r15), (Sl.v r16)] 81) := ⟨_, rfl⟩
    replace h := h b17 w4 hb17 hw17
    refine stepD_valL (L' := [(7, fun _ => True), (6, fun _ => True), (5, fun _ => True), (2, fun _ => True), (1, fun _ => True), (0, fun _ => True)]) (v := (Value.pointer (some (Addr.mk b17 0 none)))) (w' := w4) rfl rfl rfl rfl ((x_box (v := (Value.agg #[(Sl.v r15), (Sl.v r16)])) rfl rfl).trans (by rw [hb17, hw17]; rfl)) (by kernel_rfl) (held_cons trivial (held_cons trivial (held_cons trivial (held_cons trivial (held_cons trivial (held_cons trivial held_nil)))))) ?_
    refine wpD_take (v := (Value.pointer (some (Addr.mk b17 0 none)))) 12 (fun _ => True) rfl (by kernel_rfl) (by kernel_rfl) (by kernel_rfl) rfl rfl rfl trivial (fun w _ => (x_assign (v := (Value.pointer (some (Addr.mk b17 0 none)))) rfl rfl)) ?_
    exact wpD_done (by kernel_rfl) ⟨some (Addr.mk b17 0 none), ⟨rfl, trivial⟩, h⟩
  clear h
  rintro l18 ρ w5 ⟨e2, -⟩ h
  replace h := hk l18 w5 h
  clear hk
  refine wpC_ret ?_
  exact ⟨.inl rfl, fun a ha => ⟨_, results_rep1 rfl ha e2, l18, rfl, h⟩⟩

/-- slices.Clone[[]sealed.box,sealed.box] -/
def F37 (p0 : Sl) (w0 : World) (K : Sl → World → Prop) : Prop :=
  cnd (p0.a.isNone)
    (
    K Sl.nil w0
    )
    (
    nw 69 #[] w0 fun b10 w1 =>
    rn Try.prog (Builtin.append_ #[61, 61] 61 #[Sl.v (⟨some ⟨b10, 0, none⟩, 0, 0⟩ : Sl), Sl.v p0]) Sl.v w1 fun r11 w2 =>
    K r11 w2
    )
set_option maxRecDepth 100000 in
theorem D37 (p0 : Sl) (w0 : World) (K : Sl → World → Prop) (h : F37 p0 w0 K) : callC Try.prog 37 #[(Sl.v p0)] (fun (r : Sl) => (Sl.v r)) w0 K := by
  unfold F37 at h
  refine calls_of_wpC Try.func37 rfl 8 rfl (by simp) ?_
  intro ρ hρ
  have e0 : ρ 0 = (Sl.v p0) := hρ 0
  clear hρ
  refine wpC_seq ?_
  refine wpC_region ?_
  refine wpR_val (v := (Sl.v Sl.nil)) (w' := w0) rfl rfl rfl (x_assign (v := (Sl.v Sl.nil)) rfl rfl) ?_
  refine wpR_nil ?_
  refine wpC_seq ?_
  refine wpC_seq ?_
  refine wpC_cut (fun ρ => ρ 0 = (Sl.v p0) ∧ True) ⟨e0, trivial⟩ ?_
  rintro ρ ⟨e0, -⟩
  refine wpC_region ?_
  refine wpR_val (v := (Sl.v p0)) (w' := w0) rfl rfl rfl (x_move (v := (Sl.v p0)) rfl e0) ?_
  refine wpR_val (v := (Value.bool p0.a.isNone)) (w' := w0) rfl rfl rfl (x_eqlNilS (s := p0) rfl rfl rfl isSliceT_61) ?_
  refine wpR_nil ?_
  refine wpC_cond (b := p0.a.isNone) rfl (fun hc9 => ?_) (fun hc9 => ?_)
  · replace h := h.1 hc9
    refine wpC_seq ?_
    refine wpC_cut (fun ρ => True) trivial ?_
    rintro ρ -
    refine wpC_region ?_
    refine wpR_val (v := (Sl.v Sl.nil)) (w' := w0) rfl rfl rfl (x_assign (v := (Sl.v Sl.nil)) rfl rfl) ?_
    refine wpR_nil ?_
    refine wpC_ret ?_
    exact ⟨.inl rfl, fun a ha => ⟨_, results_rep1 rfl ha rfl, Sl.nil, rfl, h⟩⟩
  · replace h := h.2 hc9
    refine wpC_skip ?_
    refine wpC_seq ?_
    refine wpC_cut (fun ρ => ρ 0 = (Sl.v p0) ∧ True) ⟨e0, trivial⟩ ?_
    rintro ρ ⟨e0, -⟩
    refine wpC_region ?_
    obtain ⟨b10, hb10⟩ : ∃ u, u = w0.heap.size := ⟨_, rfl⟩
    obtain ⟨w1, hw10⟩ : ∃ u, u = w0.alloc (.cells #[] 69) := ⟨_, rfl⟩
    replace h := h b10 w1 hb10 hw10
    refine wpR_val (v := (Sl.v (⟨some ⟨b10, 0, none⟩, 0, 0⟩ : Sl))) (w' := w1) rfl rfl rfl ((x_buildSlice (qs := []) rfl (by rfl) (BS_61_0_ )).trans (by rw [← hb10, ← hw10])) ?_
    refine wpR_val (v := (Sl.v p0)) (w' := w1) rfl rfl rfl (x_move (v := (Sl.v p0)) rfl e0) ?_
    obtain ⟨r11, w2, q11, h⟩ := h
    refine wpR_val (v := (Sl.v r11)) (w' := w2) rfl rfl rfl (x_append (s := (⟨some ⟨b10, 0, none⟩, 0, 0⟩ : Sl)) (u := p0) rfl rfl rfl rfl q11) ?_
    refine wpR_val (v := (Sl.v r11)) (w' := w2) rfl rfl rfl (x_assign (v := (Sl.v r11)) rfl rfl) ?_
    refine wpR_nil ?_
    refine wpC_ret ?_
    exact ⟨.inl rfl, fun a ha => ⟨_, results_rep1 rfl ha rfl, r11, rfl, h⟩⟩

/-- (*vault.Vault).has -/
def F38 (p0 : Option Addr) (p1 : Int) (w0 : World) (K : Bool → World → Prop) : Prop :=
  jp (fun J9 => cnd (decide (0 ≤ p1))
    (
    nn p0 fun a11 =>
    ld Sl.v (a11.add 0) w0 fun x12 =>
    J9 (decide (p1 < (x12.len : Int)))
    )
    (
    J9 false
    ))
  fun c13 =>
  K c13 w0
set_option maxRecDepth 100000 in
theorem D38 (p0 : Option Addr) (p1 : Int) (w0 : World) (K : Bool → World → Prop) (h : F38 p0 p1 w0 K) : callC Try.prog 38 #[(Value.pointer p0), (Value.int .i64 p1)] (fun (r : Bool) => (Value.bool r)) w0 K := by
  unfold F38 at h
  refine calls_of_wpC Try.func38 rfl 16 rfl (by simp) ?_
  intro ρ hρ
  have e0 : ρ 0 = (Value.pointer p0) := hρ 0
  have e1 : ρ 1 = (Value.int .i64 p1) := hρ 1
  clear hρ
  refine wpC_seq ?_
  refine wpC_region ?_
  refine wpR_val (v := (Value.bool false)) (w' := w0) rfl rfl rfl (x_assign (v := (Value.bool false)) rfl rfl) ?_
  refine wpR_nil ?_
  refine wpC_seq ?_
  refine wpC_cut (fun ρ => ρ 0 = (Value.pointer p0) ∧ ρ 1 = (Value.int .i64 p1) ∧ True) ⟨e0, e1, trivial⟩ ?_
  rintro ρ ⟨e0, e1, -⟩
  refine wpC_region ?_
  refine wpR_val (v := (Value.int .i64 p1)) (w' := w0) rfl rfl rfl (x_move (v := (Value.int .i64 p1)) rfl e1) ?_
  refine wpR_val (v := (Value.bool (decide (0 ≤ p1)))) (w' := w0) rfl rfl rfl (x_leq rfl rfl rfl) ?_
  refine wpR_val (v := (Value.bool (decide (0 ≤ p1)))) (w' := w0) rfl rfl rfl (x_move (v := (Value.bool (decide (0 ≤ p1)))) rfl rfl) ?_
  obtain ⟨J9, h, hk⟩ := h
  refine wpR_joinJ 8 (fun x ρ => ρ 15 = Value.bool x ∧ True) (fun x w => J9 x ∧ w0 = w) ?_ ?_
  · clear hk
    rcases Bool.eq_false_or_eq_true (decide (0 ≤ p1)) with hc10 | hc10
    · replace h := h.1 hc10
      refine wpR_val (v := (Value.int .i64 p1)) (w' := w0) (wantG rfl rfl rfl hc10) rfl rfl (x_move (v := (Value.int .i64 p1)) rfl e1) ?_
      refine wpR_val (v := (Value.pointer p0)) (w' := w0) (wantG rfl rfl rfl hc10) rfl rfl (x_move (v := (Value.pointer p0)) rfl e0) ?_
      obtain ⟨a11, q11, h⟩ := h
      refine wpR_val (v := (Value.pointer (some a11))) (w' := w0) (wantG rfl rfl rfl hc10) rfl rfl (x_nilCheck rfl rfl q11) ?_
      refine wpR_val (v := (Value.pointer (some (a11.add 0)))) (w' := w0) (wantG rfl rfl rfl hc10) rfl rfl (x_fieldAddr rfl rfl FA_81_0) ?_
      obtain ⟨x12, q12, h⟩ := h
      refine wpR_val (v := (Sl.v x12)) (w' := w0) (wantG rfl rfl rfl hc10) rfl rfl (x_load1 rfl rfl SH_78 q12) ?_
      refine wpR_val (v := (Value.int .i64 (x12.len : Int))) (w' := w0) (wantG rfl rfl rfl hc10) rfl rfl (x_lenS (s := x12) rfl rfl isSliceT_78) ?_
      refine wpR_val (v := (Value.bool (decide (p1 < (x12.len : Int))))) (w' := w0) (wantG rfl rfl rfl hc10) rfl rfl (x_lss rfl rfl rfl) ?_
      refine wpR_val (v := (Value.bool (decide (p1 < (x12.len : Int))))) (w' := w0) rfl rfl rfl (x_pickT (v := (Value.bool (decide (p1 < (x12.len : Int))))) rfl rfl hc10 rfl) ?_
      refine wpR_nil ?_
      exact ⟨decide (p1 < (x12.len : Int)), ⟨rfl, trivial⟩, h, rfl⟩
    · replace h := h.2 hc10
      refine wpR_pass (wantN rfl rfl rfl hc10) rfl rfl ?_
      refine wpR_pass (wantN rfl rfl rfl hc10) rfl rfl ?_
      refine wpR_pass (wantN rfl rfl rfl hc10) rfl rfl ?_
      refine wpR_pass (wantN rfl rfl rfl hc10) rfl rfl ?_
      refine wpR_pass (wantN rfl rfl rfl hc10) rfl rfl ?_
      refine wpR_pass (wantN rfl rfl rfl hc10) rfl rfl ?_
      refine wpR_pass (wantN rfl rfl rfl hc10) rfl rfl ?_
      refine wpR_val (v := (Value.bool false)) (w' := w0) rfl rfl rfl (x_pickF (v := (Value.bool false)) rfl rfl hc10 rfl) ?_
      refine wpR_nil ?_
      exact ⟨false, ⟨rfl, trivial⟩, h, rfl⟩
  clear h
  rintro c13 ρ wj ⟨e15, -⟩ ⟨h, rfl⟩
  replace h := hk c13 h
  clear hk
  refine wpR_val (v := (Value.bool c13)) (w' := w0) rfl rfl rfl (x_assign (v := (Value.bool c13)) rfl e15) ?_
  refine wpR_nil ?_
  refine wpC_ret ?_
  exact ⟨.inl rfl, fun a ha => ⟨_, results_rep1 rfl ha rfl, c13, rfl, h⟩⟩

/-- share.value -/
def F39 (p0 : Sl) (p1 : Int) (w0 : World) (K : Int → World → Prop) : Prop :=
  lp (fun (next9 : (Int × Int) → World → Prop) l9 w1 =>
    cnd (decide (l9.2 < (p0.len : Int)))
      (
      ix p0 l9.2 2 fun p11 =>
      ld (Value.int .i64) (p11.add 0) w1 fun x12 =>
      ld (Value.int .i64) (p11.add 1) w1 fun x13 =>
      nw 56 #[(Value.int .i64 0), (Value.int .i64 0)] w1 fun b14 w2 =>
      st (Addr.mk b14 0 none) [(Value.int .i64 x12), (Value.int .i64 x13)] w2 fun w3 =>
      ld (Value.int .i64) ((Addr.mk b14 0 none).add 1) w3 fun x16 =>
      lp (fun (next17 : (Int × Int × Int) → World → Prop) l17 w4 =>
        cnd (decide (l17.2.2 < (p0.len : Int)))
          (
          jn (fun (J19 : (Int × Int) → World → Prop) =>
            ix p0 l17.2.2 2 fun p21 =>
            ld (Value.int .i64) (p21.add 0) w4 fun x22 =>
            ld (Value.int .i64) (p21.add 1) w4 fun x23 =>
            nw 56 #[(Value.int .i64 0), (Value.int .i64 0)] w4 fun b24 w6 =>
            st (Addr.mk b24 0 none) [(Value.int .i64 x22), (Value.int .i64 x23)] w6 fun w7 =>
            cnd (decide (l17.2.2 = l9.2))
              (
              J19 (l17.1, l17.2.1) w7
              )
              (
              ld (Value.int .i64) ((Addr.mk b24 0 none).add 0) w7 fun x27 =>
              ld (Value.int .i64) ((Addr.mk b14 0 none).add 0) w7 fun x28 =>
              ld (Value.int .i64) ((Addr.mk b24 0 none).add 0) w7 fun x29 =>
              J19 ((IntKind.i64.wrap (l17.1 * ((IntKind.i64.wrap ((IntKind.i64.wrap (p1 - x27)) + 2147483647)).tmod 2147483647))).tmod 2147483647, (IntKind.i64.wrap (l17.2.1 * ((IntKind.i64.wrap ((IntKind.i64.wrap (x28 - x29)) + 2147483647)).tmod 2147483647))).tmod 2147483647) w7
              )
          )
          fun l20 w5 =>
          next17 (l20.1, l20.2, IntKind.i64.wrap (l17.2.2 + 1)) w5
          )
          (
          callC Try.prog 44 #[(Value.int .i64 l17.2.1), (Value.int .i64 2147483645)] (fun (r : Int) => (Value.int .i64 r)) w4 fun r30 w8 =>
          next9 ((IntKind.i64.wrap (l9.1 + (IntKind.i64.wrap (l17.1 * r30)))).tmod 2147483647, IntKind.i64.wrap (l9.2 + 1)) w8
          )
      ) (x16, 1, 0) w3
      )
      (
      K l9.1 w1
      )
  ) (0, 0) w0
set_option maxRecDepth 100000 in
theorem D39 (p0 : Sl) (p1 : Int) (w0 : World) (K : Int → World → Prop) (h : F39 p0 p1 w0 K) : callC Try.prog 39 #[(Sl.v p0), (Value.int .i64 p1)] (fun (r : Int) => (Value.int .i64 r)) w0 K := by
  unfold F39 at h
  refine calls_of_wpC Try.func39 rfl 60 rfl (by simp) ?_
  intro ρ hρ
  have e0 : ρ 0 = (Sl.v p0) := hρ 0
  have e1 : ρ 1 = (Value.int .i64 p1) := hρ 1
  clear hρ
  refine wpC_seq ?_
  refine wpC_region ?_
  refine wpR_val (v := (Value.int .i64 0)) (w' := w0) rfl rfl rfl (x_assign (v := (Value.int .i64 0)) rfl rfl) ?_
  refine wpR_nil ?_
  refine wpC_seq ?_
  refine wpC_cut (fun ρ => ρ 0 = (Sl.v p0) ∧ ρ 1 = (Value.int .i64 p1) ∧ True) ⟨e0, e1, trivial⟩ ?_
  rintro ρ ⟨e0, e1, -⟩
  refine wpC_region ?_
  refine wpR_val (v := (Value.int .i64 0)) (w' := w0) rfl rfl rfl (x_assign (v := (Value.int .i64 0)) rfl rfl) ?_
  refine wpR_nil ?_
  refine wpC_seq ?_
  refine wpC_seq ?_
  refine wpC_cut (fun ρ => ρ 0 = (Sl.v p0) ∧ ρ 1 = (Value.int .i64 p1) ∧ ρ 5 = (Value.int .i64 0) ∧ True) ⟨e0, e1, rfl, trivial⟩ ?_
  rintro ρ ⟨e0, e1, e5, -⟩
  refine wpC_region ?_
  refine wpR_val (v := (Sl.v p0)) (w' := w0) rfl rfl rfl (x_move (v := (Sl.v p0)) rfl e0) ?_
  refine wpR_val (v := (Value.int .i64 (p0.len : Int))) (w' := w0) rfl rfl rfl (x_lenS (s := p0) rfl rfl isSliceT_25) ?_
  refine wpR_val (v := (Value.int .i64 0)) (w' := w0) rfl rfl rfl (x_move (v := (Value.int .i64 0)) rfl rfl) ?_
  refine wpR_nil ?_
  refine wpC_block ?_
  obtain ⟨I9, μ9, hI9, hr9⟩ := h
  refine wpC_loop (fun (x : Int × Int) ρ => ρ 5 = (Value.int .i64 x.1) ∧ ρ 14 = (Value.int .i64 x.2) ∧ ρ 0 = (Sl.v p0) ∧ ρ 1 = (Value.int .i64 p1) ∧ ρ 12 = (Sl.v p0) ∧ ρ 13 = (Value.int .i64 (p0.len : Int)) ∧ True) I9 μ9 (0, 0) ⟨e5, rfl, e0, e1, rfl, rfl, trivial⟩ hI9 ?_
  rintro l9 ρ w1 ⟨e5, e14, e0, e1, e12, e13, -⟩ h
  replace h := hr9 l9 w1 h
  clear hr9 hI9
  refine wpC_seq ?_
  refine wpC_region ?_
  refine wpR_val (v := (Value.bool (decide (l9.2 < (p0.len : Int))))) (w' := w1) rfl rfl rfl (x_lss rfl e14 e13) ?_
  refine wpR_nil ?_
  refine wpC_seq ?_
  refine wpC_cond (b := decide (l9.2 < (p0.len : Int))) rfl (fun hc10 => ?_) (fun hc10 => ?_)
  · replace h := h.1 hc10
    refine wpC_skip ?_
    refine wpC_seq ?_
    refine wpC_block ?_
    refine wpC_seq ?_
    refine wpC_cut (fun ρ => ρ 0 = (Sl.v p0) ∧ ρ 1 = (Value.int .i64 p1) ∧ ρ 5 = (Value.int .i64 l9.1) ∧ ρ 12 = (Sl.v p0) ∧ ρ 13 = (Value.int .i64 (p0.len : Int)) ∧ ρ 14 = (Value.int .i64 l9.2) ∧ True) ⟨e0, e1, e5, e12, e13, e14, trivial⟩ ?_
    rintro ρ ⟨e0, e1, e5, e12, e13, e14, -⟩
    refine wpC_region ?_
    refine wpR_val (v := (Value.int .i64 l9.2)) (w' := w1) rfl rfl rfl (x_move (v := (Value.int .i64 l9.2)) rfl e14) ?_
    obtain ⟨q11, z11, r11, h⟩ := h
    generalize hp11 : z11.add ((l9.2 : Int).toNat * 2) = p11 at h
    refine wpR_val (v := (Value.pointer (some p11))) (w' := w1) rfl rfl rfl ((x_indexAddr (s := p0) rfl e12 e14 ES_25 q11 r11).trans (by rw [hp11])) ?_
    obtain ⟨x12, q12, x13, q13, h⟩ := h
    refine wpR_val (v := (Value.agg #[(Value.int .i64 x12), (Value.int .i64 x13)])) (w' := w1) rfl rfl rfl (x_loadN [(Value.int .i64 x12), (Value.int .i64 x13)] rfl rfl SH_56 (CellsAt.out (CellsAt.cons q12 (CellsAt.cons q13 CellsAt.nil)))) ?_
    obtain ⟨b14, hb14⟩ : ∃ u, u = w1.heap.size := ⟨_, rfl⟩
    obtain ⟨w2, hw14⟩ : ∃ u, u = w1.alloc (.cells #[(Value.int .i64 0), (Value.int .i64 0)] 56) := ⟨_, rfl⟩
    replace h := h b14 w2 hb14 hw14
    refine wpR_val (v := (Value.pointer (some (Addr.mk b14 0 none)))) (w' := w2) rfl rfl rfl ((x_alloc rfl ZV_56).trans (by rw [hb14, hw14]; rfl)) ?_
    refine wpR_val (v := (Value.int .i64 l9.2)) (w' := w2) rfl rfl rfl (x_assign (v := (Value.int .i64 l9.2)) rfl rfl) ?_
    obtain ⟨q15, h⟩ := h
    obtain ⟨w3, hw15⟩ : ∃ u, u = setAll w2 (Addr.mk b14 0 none) [(Value.int .i64 x12), (Value.int .i64 x13)] 0 := ⟨_, rfl⟩
    replace h := h w3 hw15
    refine wpR_skp (w' := w3) rfl rfl ((x_store (v := (Value.agg #[(Value.int .i64 x12), (Value.int .i64 x13)])) rfl rfl rfl SZ_56 (ones (by rfl)) q15).trans (by rw [hw15]; rfl)) ?_
    refine wpR_nil ?_
    refine wpC_seq ?_
    refine wpC_cut (fun ρ => ρ 0 = (Sl.v p0) ∧ ρ 1 = (Value.int .i64 p1) ∧ ρ 5 = (Value.int .i64 l9.1) ∧ ρ 6 = (Value.int .i64 l9.2) ∧ ρ 7 = (Value.pointer (some (Addr.mk b14 0 none))) ∧ ρ 12 = (Sl.v p0) ∧ ρ 13 = (Value.int .i64 (p0.len : Int)) ∧ ρ 14 = (Value.int .i64 l9.2) ∧ True) ⟨e0, e1, e5, rfl, rfl, e12, e13, e14, trivial⟩ ?_
    rintro ρ ⟨e0, e1, e5, e6, e7, e12, e13, e14, -⟩
    refine wpC_region ?_
    refine wpR_val (v := (Value.pointer (some ((Addr.mk b14 0 none).add 1)))) (w' := w3) rfl rfl rfl (x_fieldAddr rfl e7 FA_56_1) ?_
    obtain ⟨x16, q16, h⟩ := h
    refine wpR_val (v := (Value.int .i64 x16)) (w' := w3) rfl rfl rfl (x_load1 rfl rfl SH_3 q16) ?_
    refine wpR_val (v := (Value.int .i64 x16)) (w' := w3) rfl rfl rfl (x_assign (v := (Value.int .i64 x16)) rfl rfl) ?_
    refine wpR_val (v := (Value.int .i64 1)) (w' := w3) rfl rfl rfl (x_assign (v := (Value.int .i64 1)) rfl rfl) ?_
    refine wpR_nil ?_
    refine wpC_seq ?_
    refine wpC_seq ?_
    refine wpC_cut (fun ρ => ρ 0 = (Sl.v p0) ∧ ρ 1 = (Value.int .i64 p1) ∧ ρ 5 = (Value.int .i64 l9.1) ∧ ρ 6 = (Value.int .i64 l9.2) ∧ ρ 7 = (Value.pointer (some (Addr.mk b14 0 none))) ∧ ρ 8 = (Value.int .i64 x16) ∧ ρ 9 = (Value.int .i64 1) ∧ ρ 12 = (Sl.v p0) ∧ ρ 13 = (Value.int .i64 (p0.len : Int)) ∧ ρ 14 = (Value.int .i64 l9.2) ∧ True) ⟨e0, e1, e5, e6, e7, rfl, rfl, e12, e13, e14, trivial⟩ ?_
    rintro ρ ⟨e0, e1, e5, e6, e7, e8, e9, e12, e13, e14, -⟩
    refine wpC_region ?_
    refine wpR_val (v := (Sl.v p0)) (w' := w3) rfl rfl rfl (x_move (v := (Sl.v p0)) rfl e0) ?_
    refine wpR_val (v := (Value.int .i64 (p0.len : Int))) (w' := w3) rfl rfl rfl (x_lenS (s := p0) rfl rfl isSliceT_25) ?_
    refine wpR_val (v := (Value.int .i64 0)) (w' := w3) rfl rfl rfl (x_move (v := (Value.int .i64 0)) rfl rfl) ?_
    refine wpR_nil ?_
    refine wpC_block ?_
    obtain ⟨I17, μ17, hI17, hr17⟩ := h
    refine wpC_loop (fun (x : Int × Int × Int) ρ => ρ 8 = (Value.int .i64 x.1) ∧ ρ 9 = (Value.int .i64 x.2.1) ∧ ρ 23 = (Value.int .i64 x.2.2) ∧ ρ 0 = (Sl.v p0) ∧ ρ 1 = (Value.int .i64 p1) ∧ ρ 5 = (Value.int .i64 l9.1) ∧ ρ 6 = (Value.int .i64 l9.2) ∧ ρ 7 = (Value.pointer (some (Addr.mk b14 0 none))) ∧ ρ 12 = (Sl.v p0) ∧ ρ 13 = (Value.int .i64 (p0.len : Int)) ∧ ρ 14 = (Value.int .i64 l9.2) ∧ ρ 21 = (Sl.v p0) ∧ ρ 22 = (Value.int .i64 (p0.len : Int)) ∧ True) I17 μ17 (x16, 1, 0) ⟨e8, e9, rfl, e0, e1, e5, e6, e7, e12, e13, e14, rfl, rfl, trivial⟩ hI17 ?_
    rintro l17 ρ w4 ⟨e8, e9, e23, e0, e1, e5, e6, e7, e12, e13, e14, e21, e22, -⟩ h
    replace h := hr17 l17 w4 h
    clear hr17 hI17
    refine wpC_seq ?_
    refine wpC_region ?_
    refine wpR_val (v := (Value.bool (decide (l17.2.2 < (p0.len : Int))))) (w' := w4) rfl rfl rfl (x_lss rfl e23 e22) ?_
    refine wpR_nil ?_
    refine wpC_seq ?_
    refine wpC_cond (b := decide (l17.2.2 < (p0.len : Int))) rfl (fun hc18 => ?_) (fun hc18 => ?_)
    · replace h := h.1 hc18
      refine wpC_skip ?_
      obtain ⟨J19, h, hk⟩ := h
      refine wpC_seqJ (fun (x : Int × Int) ρ => ρ 8 = (Value.int .i64 x.1) ∧ ρ 9 = (Value.int .i64 x.2) ∧ ρ 0 = (Sl.v p0) ∧ ρ 1 = (Value.int .i64 p1) ∧ ρ 5 = (Value.int .i64 l9.1) ∧ ρ 6 = (Value.int .i64 l9.2) ∧ ρ 7 = (Value.pointer (some (Addr.mk b14 0 none))) ∧ ρ 12 = (Sl.v p0) ∧ ρ 13 = (Value.int .i64 (p0.len : Int)) ∧ ρ 14 = (Value.int .i64 l9.2) ∧ ρ 21 = (Sl.v p0) ∧ ρ 22 = (Value.int .i64 (p0.len : Int)) ∧ ρ 23 = (Value.int .i64 l17.2.2) ∧ True) J19 ?_ ?_
      · clear hk
        refine wpC_block ?_
        refine wpC_seq ?_
        refine wpC_cut (fun ρ => ρ 0 = (Sl.v p0) ∧ ρ 1 = (Value.int .i64 p1) ∧ ρ 5 = (Value.int .i64 l9.1) ∧ ρ 6 = (Value.int .i64 l9.2) ∧ ρ 7 = (Value.pointer (some (Addr.mk b14 0 none))) ∧ ρ 8 = (Value.int .i64 l17.1) ∧ ρ 9 = (Value.int .i64 l17.2.1) ∧ ρ 12 = (Sl.v p0) ∧ ρ 13 = (Value.int .i64 (p0.len : Int)) ∧ ρ 14 = (Value.int .i64 l9.2) ∧ ρ 21 = (Sl.v p0) ∧ ρ 22 = (Value.int .i64 (p0.len : Int)) ∧ ρ 23 = (Value.int .i64 l17.2.2) ∧ True) ⟨e0, e1, e5, e6, e7, e8, e9, e12, e13, e14, e21, e22, e23, trivial⟩ ?_
        rintro ρ ⟨e0, e1, e5, e6, e7, e8, e9, e12, e13, e14, e21, e22, e23, -⟩
        refine wpC_region ?_
        refine wpR_val (v := (Value.int .i64 l17.2.2)) (w' := w4) rfl rfl rfl (x_move (v := (Value.int .i64 l17.2.2)) rfl e23) ?_
        obtain ⟨q21, z21, r21, h⟩ := h
        generalize hp21 : z21.add ((l17.2.2 : Int).toNat * 2) = p21 at h
        refine wpR_val (v := (Value.pointer (some p21))) (w' := w4) rfl rfl rfl ((x_indexAddr (s := p0) rfl e21 e23 ES_25 q21 r21).trans (by rw [hp21])) ?_
        obtain ⟨x22, q22, x23, q23, h⟩ := h
        refine wpR_val (v := (Value.agg #[(Value.int .i64 x22), (Value.int .i64 x23)])) (w' := w4) rfl rfl rfl (x_loadN [(Value.int .i64 x22), (Value.int .i64 x23)] rfl rfl SH_56 (CellsAt.out (CellsAt.cons q22 (CellsAt.cons q23 CellsAt.nil)))) ?_
        obtain ⟨b24, hb24⟩ : ∃ u, u = w4.heap.size := ⟨_, rfl⟩
        obtain ⟨w6, hw24⟩ : ∃ u, u = w4.alloc (.cells #[(Value.int .i64 0), (Value.int .i64 0)] 56) := ⟨_, rfl⟩
        replace h := h b24 w6 hb24 hw24
        refine wpR_val (v := (Value.pointer (some (Addr.mk b24 0 none)))) (w' := w6) rfl rfl rfl ((x_alloc rfl ZV_56).trans (by rw [hb24, hw24]; rfl)) ?_
        refine wpR_val (v := (Value.int .i64 l17.2.2)) (w' := w6) rfl rfl rfl (x_assign (v := (Value.int .i64 l17.2.2)) rfl rfl) ?_
        obtain ⟨q25, h⟩ := h
        obtain ⟨w7, hw25⟩ : ∃ u, u = setAll w6 (Addr.mk b24 0 none) [(Value.int .i64 x22), (Value.int .i64 x23)] 0 := ⟨_, rfl⟩
        replace h := h w7 hw25
        refine wpR_skp (w' := w7) rfl rfl ((x_store (v := (Value.agg #[(Value.int .i64 x22), (Value.int .i64 x23)])) rfl rfl rfl SZ_56 (ones (by rfl)) q25).trans (by rw [hw25]; rfl)) ?_
        refine wpR_nil ?_
        refine wpC_seq ?_
        refine wpC_seq ?_
        refine wpC_cut (fun ρ => ρ 0 = (Sl.v p0) ∧ ρ 1 = (Value.int .i64 p1) ∧ ρ 5 = (Value.int .i64 l9.1) ∧ ρ 6 = (Value.int .i64 l9.2) ∧ ρ 7 = (Value.pointer (some (Addr.mk b14 0 none))) ∧ ρ 8 = (Value.int .i64 l17.1) ∧ ρ 9 = (Value.int .i64 l17.2.1) ∧ ρ 10 = (Value.int .i64 l17.2.2) ∧ ρ 11 = (Value.pointer (some (Addr.mk b24 0 none))) ∧ ρ 12 = (Sl.v p0) ∧ ρ 13 = (Value.int .i64 (p0.len : Int)) ∧ ρ 14 = (Value.int .i64 l9.2) ∧ ρ 21 = (Sl.v p0) ∧ ρ 22 = (Value.int .i64 (p0.len : Int)) ∧ ρ 23 = (Value.int .i64 l17.2.2) ∧ True) ⟨e0, e1, e5, e6, e7, e8, e9, rfl, rfl, e12, e13, e14, e21, e22, e23, trivial⟩ ?_
        rintro ρ ⟨e0, e1, e5, e6, e7, e8, e9, e10, e11, e12, e13, e14, e21, e22, e23, -⟩
        refine wpC_region ?_
        refine wpR_val (v := (Value.int .i64 l17.2.2)) (w' := w7) rfl rfl rfl (x_move (v := (Value.int .i64 l17.2.2)) rfl e10) ?_
        refine wpR_val (v := (Value.int .i64 l9.2)) (w' := w7) rfl rfl rfl (x_move (v := (Value.int .i64 l9.2)) rfl e6) ?_
        refine wpR_val (v := (Value.bool (decide (l17.2.2 = l9.2)))) (w' := w7) rfl rfl rfl (x_eql rfl rfl rfl) ?_
        refine wpR_nil ?_
        refine wpC_cond (b := decide (l17.2.2 = l9.2)) rfl (fun hc26 => ?_) (fun hc26 => ?_)
        · replace h := h.1 hc26
          refine wpC_exit ?_
          exact ⟨(l17.1, l17.2.1), ⟨e8, e9, e0, e1, e5, e6, e7, e12, e13, e14, e21, e22, e23, trivial⟩, h⟩
        · replace h := h.2 hc26
          refine wpC_skip ?_
          refine wpC_seq ?_
          refine wpC_cut (fun ρ => ρ 0 = (Sl.v p0) ∧ ρ 1 = (Value.int .i64 p1) ∧ ρ 5 = (Value.int .i64 l9.1) ∧ ρ 6 = (Value.int .i64 l9.2) ∧ ρ 7 = (Value.pointer (some (Addr.mk b14 0 none))) ∧ ρ 8 = (Value.int .i64 l17.1) ∧ ρ 9 = (Value.int .i64 l17.2.1) ∧ ρ 11 = (Value.pointer (some (Addr.mk b24 0 none))) ∧ ρ 12 = (Sl.v p0) ∧ ρ 13 = (Value.int .i64 (p0.len : Int)) ∧ ρ 14 = (Value.int .i64 l9.2) ∧ ρ 21 = (Sl.v p0) ∧ ρ 22 = (Value.int .i64 (p0.len : Int)) ∧ ρ 23 = (Value.int .i64 l17.2.2) ∧ True) ⟨e0, e1, e5, e6, e7, e8, e9, e11, e12, e13, e14, e21, e22, e23, trivial⟩ ?_
          rintro ρ ⟨e0, e1, e5, e6, e7, e8, e9, e11, e12, e13, e14, e21, e22, e23, -⟩
          refine wpC_region ?_
          refine wpR_val (v := (Value.int .i64 l17.1)) (w' := w7) rfl rfl rfl (x_move (v := (Value.int .i64 l17.1)) rfl e8) ?_
          refine wpR_val (v := (Value.int .i64 p1)) (w' := w7) rfl rfl rfl (x_move (v := (Value.int .i64 p1)) rfl e1) ?_
          refine wpR_val (v := (Value.pointer (some ((Addr.mk b24 0 none).add 0)))) (w' := w7) rfl rfl rfl (x_fieldAddr rfl e11 FA_56_0) ?_
          obtain ⟨x27, q27, h⟩ := h
          refine wpR_val (v := (Value.int .i64 x27)) (w' := w7) rfl rfl rfl (x_load1 rfl rfl SH_3 q27) ?_
          refine wpR_val (v := (Value.int .i64 (IntKind.i64.wrap (p1 - x27)))) (w' := w7) rfl rfl rfl (x_sub rfl rfl rfl) ?_
          refine wpR_val (v := (Value.int .i64 (IntKind.i64.wrap ((IntKind.i64.wrap (p1 - x27)) + 2147483647)))) (w' := w7) rfl rfl rfl (x_add rfl rfl rfl) ?_
          refine wpR_val (v := (Value.int .i64 ((IntKind.i64.wrap ((IntKind.i64.wrap (p1 - x27)) + 2147483647)).tmod 2147483647))) (w' := w7) rfl rfl rfl (x_rem rfl rfl rfl (by decide)) ?_
          refine wpR_val (v := (Value.int .i64 (IntKind.i64.wrap (l17.1 * ((IntKind.i64.wrap ((IntKind.i64.wrap (p1 - x27)) + 2147483647)).tmod 2147483647))))) (w' := w7) rfl rfl rfl (x_mul rfl rfl rfl) ?_
          refine wpR_val (v := (Value.int .i64 ((IntKind.i64.wrap (l17.1 * ((IntKind.i64.wrap ((IntKind.i64.wrap (p1 - x27)) + 2147483647)).tmod 2147483647))).tmod 2147483647))) (w' := w7) rfl rfl rfl (x_rem rfl rfl rfl (by decide)) ?_
          refine wpR_val (v := (Value.int .i64 ((IntKind.i64.wrap (l17.1 * ((IntKind.i64.wrap ((IntKind.i64.wrap (p1 - x27)) + 2147483647)).tmod 2147483647))).tmod 2147483647))) (w' := w7) rfl rfl rfl (x_assign (v := (Value.int .i64 ((IntKind.i64.wrap (l17.1 * ((IntKind.i64.wrap ((IntKind.i64.wrap (p1 - x27)) + 2147483647)).tmod 2147483647))).tmod 2147483647))) rfl rfl) ?_
          refine wpR_nil ?_
          refine wpC_cut (fun ρ => ρ 0 = (Sl.v p0) ∧ ρ 1 = (Value.int .i64 p1) ∧ ρ 5 = (Value.int .i64 l9.1) ∧ ρ 6 = (Value.int .i64 l9.2) ∧ ρ 7 = (Value.pointer (some (Addr.mk b14 0 none))) ∧ ρ 8 = (Value.int .i64 ((IntKind.i64.wrap (l17.1 * ((IntKind.i64.wrap ((IntKind.i64.wrap (p1 - x27)) + 2147483647)).tmod 2147483647))).tmod 2147483647)) ∧ ρ 9 = (Value.int .i64 l17.2.1) ∧ ρ 11 = (Value.pointer (some (Addr.mk b24 0 none))) ∧ ρ 12 = (Sl.v p0) ∧ ρ 13 = (Value.int .i64 (p0.len : Int)) ∧ ρ 14 = (Value.int .i64 l9.2) ∧ ρ 21 = (Sl.v p0) ∧ ρ 22 = (Value.int .i64 (p0.len : Int)) ∧ ρ 23 = (Value.int .i64 l17.2.2) ∧ True) ⟨e0, e1, e5, e6, e7, rfl, e9, e11, e12, e13, e14, e21, e22, e23, trivial⟩ ?_
          rintro ρ ⟨e0, e1, e5, e6, e7, e8, e9, e11, e12, e13, e14, e21, e22, e23, -⟩
          refine wpC_region ?_
          refine wpR_val (v := (Value.int .i64 l17.2.1)) (w' := w7) rfl rfl rfl (x_move (v := (Value.int .i64 l17.2.1)) rfl e9) ?_
          refine wpR_val (v := (Value.pointer (some ((Addr.mk b14 0 none).add 0)))) (w' := w7) rfl rfl rfl (x_fieldAddr rfl e7 FA_56_0) ?_
          obtain ⟨x28, q28, h⟩ := h
          refine wpR_val (v := (Value.int .i64 x28)) (w' := w7) rfl rfl rfl (x_load1 rfl rfl SH_3 q28) ?_
          refine wpR_val (v := (Value.pointer (some ((Addr.mk b24 0 none).add 0)))) (w' := w7) rfl rfl rfl (x_fieldAddr rfl e11 FA_56_0) ?_
          obtain ⟨x29, q29, h⟩ := h
          refine wpR_val (v := (Value.int .i64 x29)) (w' := w7) rfl rfl rfl (x_load1 rfl rfl SH_3 q29) ?_
          refine wpR_val (v := (Value.int .i64 (IntKind.i64.wrap (x28 - x29)))) (w' := w7) rfl rfl rfl (x_sub rfl rfl rfl) ?_
          refine wpR_val (v := (Value.int .i64 (IntKind.i64.wrap ((IntKind.i64.wrap (x28 - x29)) + 2147483647)))) (w' := w7) rfl rfl rfl (x_add rfl rfl rfl) ?_
          refine wpR_val (v := (Value.int .i64 ((IntKind.i64.wrap ((IntKind.i64.wrap (x28 - x29)) + 2147483647)).tmod 2147483647))) (w' := w7) rfl rfl rfl (x_rem rfl rfl rfl (by decide)) ?_
          refine wpR_val (v := (Value.int .i64 (IntKind.i64.wrap (l17.2.1 * ((IntKind.i64.wrap ((IntKind.i64.wrap (x28 - x29)) + 2147483647)).tmod 2147483647))))) (w' := w7) rfl rfl rfl (x_mul rfl rfl rfl) ?_
          refine wpR_val (v := (Value.int .i64 ((IntKind.i64.wrap (l17.2.1 * ((IntKind.i64.wrap ((IntKind.i64.wrap (x28 - x29)) + 2147483647)).tmod 2147483647))).tmod 2147483647))) (w' := w7) rfl rfl rfl (x_rem rfl rfl rfl (by decide)) ?_
          refine wpR_val (v := (Value.int .i64 ((IntKind.i64.wrap (l17.2.1 * ((IntKind.i64.wrap ((IntKind.i64.wrap (x28 - x29)) + 2147483647)).tmod 2147483647))).tmod 2147483647))) (w' := w7) rfl rfl rfl (x_assign (v := (Value.int .i64 ((IntKind.i64.wrap (l17.2.1 * ((IntKind.i64.wrap ((IntKind.i64.wrap (x28 - x29)) + 2147483647)).tmod 2147483647))).tmod 2147483647))) rfl rfl) ?_
          refine wpR_nil ?_
          exact ⟨((IntKind.i64.wrap (l17.1 * ((IntKind.i64.wrap ((IntKind.i64.wrap (p1 - x27)) + 2147483647)).tmod 2147483647))).tmod 2147483647, (IntKind.i64.wrap (l17.2.1 * ((IntKind.i64.wrap ((IntKind.i64.wrap (x28 - x29)) + 2147483647)).tmod 2147483647))).tmod 2147483647), ⟨e8, rfl, e0, e1, e5, e6, e7, e12, e13, e14, e21, e22, e23, trivial⟩, h⟩
      clear h
      rintro l20 ρ w5 ⟨e8, e9, e0, e1, e5, e6, e7, e12, e13, e14, e21, e22, e23, -⟩ h
      replace h := hk l20 w5 h
      clear hk
      refine wpC_region ?_
      refine wpR_val (v := (Value.int .i64 (IntKind.i64.wrap (l17.2.2 + 1)))) (w' := w5) rfl rfl rfl (x_add rfl e23 rfl) ?_
      refine wpR_val (v := (Value.int .i64 (IntKind.i64.wrap (l17.2.2 + 1)))) (w' := w5) rfl rfl rfl (x_move (v := (Value.int .i64 (IntKind.i64.wrap (l17.2.2 + 1)))) rfl rfl) ?_
      refine wpR_nil ?_
      exact ⟨(l20.1, l20.2, IntKind.i64.wrap (l17.2.2 + 1)), ⟨e8, e9, rfl, e0, e1, e5, e6, e7, e12, e13, e14, e21, e22, trivial⟩, h⟩
    · replace h := h.2 hc18
      refine wpC_exit ?_
      refine wpC_cut (fun ρ => ρ 0 = (Sl.v p0) ∧ ρ 1 = (Value.int .i64 p1) ∧ ρ 5 = (Value.int .i64 l9.1) ∧ ρ 8 = (Value.int .i64 l17.1) ∧ ρ 9 = (Value.int .i64 l17.2.1) ∧ ρ 12 = (Sl.v p0) ∧ ρ 13 = (Value.int .i64 (p0.len : Int)) ∧ ρ 14 = (Value.int .i64 l9.2) ∧ True) ⟨e0, e1, e5, e8, e9, e12, e13, e14, trivial⟩ ?_
      rintro ρ ⟨e0, e1, e5, e8, e9, e12, e13, e14, -⟩
      refine wpC_region ?_
      refine wpR_val (v := (Value.int .i64 l9.1)) (w' := w4) rfl rfl rfl (x_move (v := (Value.int .i64 l9.1)) rfl e5) ?_
      refine wpR_val (v := (Value.int .i64 l17.1)) (w' := w4) rfl rfl rfl (x_move (v := (Value.int .i64 l17.1)) rfl e8) ?_
      refine wpR_val (v := (Value.int .i64 l17.2.1)) (w' := w4) rfl rfl rfl (x_move (v := (Value.int .i64 l17.2.1)) rfl e9) ?_
      refine wpR_enter rfl rfl rfl (x_call (vs := [(Value.int .i64 l17.2.1), (Value.int .i64 2147483645)]) rfl rfl (mapl_cons rfl (mapl_cons rfl mapl_nil)) Try.func44 NN_44 NB_44) (Calls.mono h ?_)
      rintro _ w8 ⟨r30, rfl, h⟩
      refine ⟨_, rfl, ?_⟩
      refine wpR_val (v := (Value.int .i64 (IntKind.i64.wrap (l17.1 * r30)))) (w' := w8) rfl rfl rfl (x_mul rfl rfl rfl) ?_
      refine wpR_val (v := (Value.int .i64 (IntKind.i64.wrap (l9.1 + (IntKind.i64.wrap (l17.1 * r30)))))) (w' := w8) rfl rfl rfl (x_add rfl rfl rfl) ?_
      refine wpR_val (v := (Value.int .i64 ((IntKind.i64.wrap (l9.1 + (IntKind.i64.wrap (l17.1 * r30)))).tmod 2147483647))) (w' := w8) rfl rfl rfl (x_rem rfl rfl rfl (by decide)) ?_
      refine wpR_val (v := (Value.int .i64 ((IntKind.i64.wrap (l9.1 + (IntKind.i64.wrap (l17.1 * r30)))).tmod 2147483647))) (w' := w8) rfl rfl rfl (x_assign (v := (Value.int .i64 ((IntKind.i64.wrap (l9.1 + (IntKind.i64.wrap (l17.1 * r30)))).tmod 2147483647))) rfl rfl) ?_
      refine wpR_nil ?_
      refine wpC_cut (fun ρ => ρ 0 = (Sl.v p0) ∧ ρ 1 = (Value.int .i64 p1) ∧ ρ 5 = (Value.int .i64 ((IntKind.i64.wrap (l9.1 + (IntKind.i64.wrap (l17.1 * r30)))).tmod 2147483647)) ∧ ρ 12 = (Sl.v p0) ∧ ρ 13 = (Value.int .i64 (p0.len : Int)) ∧ ρ 14 = (Value.int .i64 l9.2) ∧ True) ⟨e0, e1, rfl, e12, e13, e14, trivial⟩ ?_
      rintro ρ ⟨e0, e1, e5, e12, e13, e14, -⟩
      refine wpC_region ?_
      refine wpR_val (v := (Value.int .i64 (IntKind.i64.wrap (l9.2 + 1)))) (w' := w8) rfl rfl rfl (x_add rfl e14 rfl) ?_
      refine wpR_val (v := (Value.int .i64 (IntKind.i64.wrap (l9.2 + 1)))) (w' := w8) rfl rfl rfl (x_move (v := (Value.int .i64 (IntKind.i64.wrap (l9.2 + 1)))) rfl rfl) ?_
      refine wpR_nil ?_
      exact ⟨((IntKind.i64.wrap (l9.1 + (IntKind.i64.wrap (l17.1 * r30)))).tmod 2147483647, IntKind.i64.wrap (l9.2 + 1)), ⟨e5, rfl, e0, e1, e12, e13, trivial⟩, h⟩
  · replace h := h.2 hc10
    refine wpC_exit ?_
    refine wpC_seq ?_
    refine wpC_cut (fun ρ => ρ 5 = (Value.int .i64 l9.1) ∧ True) ⟨e5, trivial⟩ ?_
    rintro ρ ⟨e5, -⟩
    refine wpC_region ?_
    refine wpR_val (v := (Value.int .i64 l9.1)) (w' := w1) rfl rfl rfl (x_move (v := (Value.int .i64 l9.1)) rfl e5) ?_
    refine wpR_val (v := (Value.int .i64 l9.1)) (w' := w1) rfl rfl rfl (x_assign (v := (Value.int .i64 l9.1)) rfl rfl) ?_
    refine wpR_nil ?_
    refine wpC_ret ?_
    exact ⟨.inl rfl, fun a ha => ⟨_, results_rep1 rfl ha rfl, l9.1, rfl, h⟩⟩

/-- linguaref06.Wrong -/
def F40 (p0 : Sl) (p1 : Int) (w0 : World) (K : Int → World → Prop) : Prop :=
  cnd ((decide (p1 < 1)) || (decide (20 < p1)))
    (
    K 1 w0
    )
    (
    lp (fun (next12 : Int → World → Prop) l12 w1 =>
      cnd (decide (l12 < (p0.len : Int)))
        (
        ix p0 l12 2 fun p14 =>
        ld (Value.int .i64) (p14.add 0) w1 fun x15 =>
        jp (fun J16 => cnd (decide (x15 < 1))
          (
          J16 true
          )
          (
          ix p0 l12 2 fun p18 =>
          ld (Value.int .i64) (p18.add 0) w1 fun x19 =>
          J16 (decide (20 < x19))
          ))
        fun c20 =>
        jp (fun J21 => cnd (c20)
          (
          J21 true
          )
          (
          ix p0 l12 2 fun p23 =>
          ld (Value.int .i64) (p23.add 1) w1 fun x24 =>
          J21 (decide (x24 < 0))
          ))
        fun c25 =>
        jp (fun J26 => cnd (c25)
          (
          J26 true
          )
          (
          ix p0 l12 2 fun p28 =>
          ld (Value.int .i64) (p28.add 1) w1 fun x29 =>
          J26 (decide (2147483647 ≤ x29))
          ))
        fun c30 =>
        cnd (c30)
          (
          K 1 w1
          )
          (
          next12 (IntKind.i64.wrap (l12 + 1)) w1
          )
        )
        (
        lp (fun (next32 : Int → World → Prop) l32 w2 =>
          cnd ((decide (l32 < (p0.len : Int))) && (decide (l32 ≤ 20)))
            (
            lp (fun (next36 : Int → World → Prop) l36 w3 =>
              cnd (decide (l36 < l32))
                (
                jn (fun (J39 : Bool → World → Prop) => tk w3 fun w4 =>
                  ix p0 l32 2 fun p40 =>
                  ld (Value.int .i64) (p40.add 0) w4 fun x41 =>
                  ix p0 l36 2 fun p42 =>
                  ld (Value.int .i64) (p42.add 0) w4 fun x43 =>
                  J39 (decide (x41 = x43)) w4
                )
                fun l44 w5 =>
                cnd (l44)
                  (
                  K 5 w5
                  )
                  (
                  next36 (IntKind.i64.wrap (l36 + 1)) w5
                  )
                )
                (
                next32 (IntKind.i64.wrap (l32 + 1)) w3
                )
            ) 0 w2
            )
            (
            K 0 w2
            )
        ) 0 w1
        )
    ) 0 w0
    )
set_option maxRecDepth 100000 in
theorem D40 (p0 : Sl) (p1 : Int) (w0 : World) (K : Int → World → Prop) (h : F40 p0 p1 w0 K) : callC Try.prog 40 #[(Sl.v p0), (Value.int .i64 p1)] (fun (r : Int) => (Value.int .i64 r)) w0 K := by
  unfold F40 at h
  refine calls_of_wpC Try.func40 rfl 76 rfl (by simp) ?_
  intro ρ hρ
  have e0 : ρ 0 = (Sl.v p0) := hρ 0
  have e1 : ρ 1 = (Value.int .i64 p1) := hρ 1
  clear hρ
  refine wpC_seq ?_
  refine wpC_region ?_
  refine wpR_val (v := (Value.int .i64 0)) (w' := w0) rfl rfl rfl (x_assign (v := (Value.int .i64 0)) rfl rfl) ?_
  refine wpR_nil ?_
  refine wpC_seq ?_
  refine wpC_seq ?_
  refine wpC_cut (fun ρ => ρ 0 = (Sl.v p0) ∧ ρ 1 = (Value.int .i64 p1) ∧ True) ⟨e0, e1, trivial⟩ ?_
  rintro ρ ⟨e0, e1, -⟩
  refine wpC_region ?_
  refine wpR_val (v := (Value.int .i64 p1)) (w' := w0) rfl rfl rfl (x_move (v := (Value.int .i64 p1)) rfl e1) ?_
  refine wpR_val (v := (Value.bool (decide (p1 < 1)))) (w' := w0) rfl rfl rfl (x_lss rfl rfl rfl) ?_
  refine wpR_val (v := (Value.bool (decide (p1 < 1)))) (w' := w0) rfl rfl rfl (x_move (v := (Value.bool (decide (p1 < 1)))) rfl rfl) ?_
  refine wpR_joinJ 3 (fun (_ : Unit) ρ => ρ 13 = Value.bool ((decide (p1 < 1)) || (decide (20 < p1))) ∧ ρ 0 = (Sl.v p0) ∧ True) (fun _ w => w0 = w) ?_ ?_
  · clear h
    rcases Bool.eq_false_or_eq_true (decide (p1 < 1)) with hc10 | hc10
    · skip
      refine wpR_pass (wantN rfl rfl rfl hc10) rfl rfl ?_
      refine wpR_pass (wantN rfl rfl rfl hc10) rfl rfl ?_
      refine wpR_val (v := (Value.bool true)) (w' := w0) rfl rfl rfl (x_pickT (v := (Value.bool true)) rfl rfl hc10 rfl) ?_
      refine wpR_nil ?_
      exact ⟨(), ⟨(by rw [hc10]; rfl), e0, trivial⟩, rfl⟩
    · skip
      refine wpR_val (v := (Value.int .i64 p1)) (w' := w0) (wantG rfl rfl rfl hc10) rfl rfl (x_move (v := (Value.int .i64 p1)) rfl e1) ?_
      refine wpR_val (v := (Value.bool (decide (20 < p1)))) (w' := w0) (wantG rfl rfl rfl hc10) rfl rfl (x_gtr rfl rfl rfl) ?_
      refine wpR_val (v := (Value.bool (decide (20 < p1)))) (w' := w0) rfl rfl rfl (x_pickF (v := (Value.bool (decide (20 < p1)))) rfl rfl hc10 rfl) ?_
      refine wpR_nil ?_
      exact ⟨(), ⟨(by rw [hc10]; rfl), e0, trivial⟩, rfl⟩
  rintro _ ρ wj ⟨e13, e0, -⟩ rfl
  refine wpR_nil ?_
  refine wpC_cond (b := (decide (p1 < 1)) || (decide (20 < p1))) e13 (fun hc11 => ?_) (fun hc11 => ?_)
  · replace h := h.1 hc11
    refine wpC_seq ?_
    refine wpC_region ?_
    refine wpR_val (v := (Value.int .i64 1)) (w' := w0) rfl rfl rfl (x_assign (v := (Value.int .i64 1)) rfl rfl) ?_
    refine wpR_nil ?_
    refine wpC_ret ?_
    exact ⟨.inl rfl, fun a ha => ⟨_, results_rep1 rfl ha rfl, 1, rfl, h⟩⟩
  · replace h := h.2 hc11
    refine wpC_skip ?_
    refine wpC_seq ?_
    refine wpC_seq ?_
    refine wpC_region ?_
    refine wpR_val (v := (Value.int .i64 0)) (w' := w0) rfl rfl rfl (x_assign (v := (Value.int .i64 0)) rfl rfl) ?_
    refine wpR_nil ?_
    refine wpC_block ?_
    obtain ⟨I12, μ12, hI12, hr12⟩ := h
    refine wpC_loop (fun (x : Int) ρ => ρ 5 = (Value.int .i64 x) ∧ ρ 0 = (Sl.v p0) ∧ True) I12 μ12 0 ⟨rfl, e0, trivial⟩ hI12 ?_
    rintro l12 ρ w1 ⟨e5, e0, -⟩ h
    replace h := hr12 l12 w1 h
    clear hr12 hI12
    refine wpC_seq ?_
    refine wpC_seq ?_
    refine wpC_region ?_
    refine wpR_val (v := (Value.int .i64 l12)) (w' := w1) rfl rfl rfl (x_move (v := (Value.int .i64 l12)) rfl e5) ?_
    refine wpR_val (v := (Sl.v p0)) (w' := w1) rfl rfl rfl (x_move (v := (Sl.v p0)) rfl e0) ?_
    refine wpR_val (v := (Value.int .i64 (p0.len : Int))) (w' := w1) rfl rfl rfl (x_lenS (s := p0) rfl rfl isSliceT_25) ?_
    refine wpR_val (v := (Value.bool (decide (l12 < (p0.len : Int))))) (w' := w1) rfl rfl rfl (x_lss rfl rfl rfl) ?_
    refine wpR_nil ?_
    refine wpC_cond (b := decide (l12 < (p0.len : Int))) rfl (fun hc13 => ?_) (fun hc13 => ?_)
    · replace h := h.1 hc13
      refine wpC_skip ?_
      refine wpC_seq ?_
      refine wpC_block ?_
      refine wpC_seq ?_
      refine wpC_cut (fun ρ => ρ 0 = (Sl.v p0) ∧ ρ 5 = (Value.int .i64 l12) ∧ True) ⟨e0, e5, trivial⟩ ?_
      rintro ρ ⟨e0, e5, -⟩
      refine wpC_region ?_
      refine wpR_val (v := (Sl.v p0)) (w' := w1) rfl rfl rfl (x_move (v := (Sl.v p0)) rfl e0) ?_
      refine wpR_val (v := (Value.int .i64 l12)) (w' := w1) rfl rfl rfl (x_move (v := (Value.int .i64 l12)) rfl e5) ?_
      obtain ⟨q14, z14, r14, h⟩ := h
      generalize hp14 : z14.add ((l12 : Int).toNat * 2) = p14 at h
      refine wpR_val (v := (Value.pointer (some p14))) (w' := w1) rfl rfl rfl ((x_indexAddr (s := p0) rfl rfl rfl ES_25 q14 r14).trans (by rw [hp14])) ?_
      refine wpR_val (v := (Value.pointer (some (p14.add 0)))) (w' := w1) rfl rfl rfl (x_fieldAddr rfl rfl FA_56_0) ?_
      obtain ⟨x15, q15, h⟩ := h
      refine wpR_val (v := (Value.int .i64 x15)) (w' := w1) rfl rfl rfl (x_load1 rfl rfl SH_3 q15) ?_
      refine wpR_val (v := (Value.bool (decide (x15 < 1)))) (w' := w1) rfl rfl rfl (x_lss rfl rfl rfl) ?_
      refine wpR_val (v := (Value.bool (decide (x15 < 1)))) (w' := w1) rfl rfl rfl (x_move (v := (Value.bool (decide (x15 < 1)))) rfl rfl) ?_
      obtain ⟨J16, h, hk⟩ := h
      refine wpR_joinJ 7 (fun x ρ => ρ 33 = Value.bool x ∧ ρ 0 = (Sl.v p0) ∧ ρ 5 = (Value.int .i64 l12) ∧ True) (fun x w => J16 x ∧ w1 = w) ?_ ?_
      · clear hk
        rcases Bool.eq_false_or_eq_true (decide (x15 < 1)) with hc17 | hc17
        · replace h := h.1 hc17
          refine wpR_pass (wantN rfl rfl rfl hc17) rfl rfl ?_
          refine wpR_pass (wantN rfl rfl rfl hc17) rfl rfl ?_
          refine wpR_pass (wantN rfl rfl rfl hc17) rfl rfl ?_
          refine wpR_pass (wantN rfl rfl rfl hc17) rfl rfl ?_
          refine wpR_pass (wantN rfl rfl rfl hc17) rfl rfl ?_
          refine wpR_pass (wantN rfl rfl rfl hc17) rfl rfl ?_
          refine wpR_val (v := (Value.bool true)) (w' := w1) rfl rfl rfl (x_pickT (v := (Value.bool true)) rfl rfl hc17 rfl) ?_
          refine wpR_nil ?_
          exact ⟨true, ⟨rfl, e0, e5, trivial⟩, h, rfl⟩
        · replace h := h.2 hc17
          refine wpR_val (v := (Sl.v p0)) (w' := w1) (wantG rfl rfl rfl hc17) rfl rfl (x_move (v := (Sl.v p0)) rfl e0) ?_
          refine wpR_val (v := (Value.int .i64 l12)) (w' := w1) (wantG rfl rfl rfl hc17) rfl rfl (x_move (v := (Value.int .i64 l12)) rfl e5) ?_
          obtain ⟨q18, z18, r18, h⟩ := h
          generalize hp18 : z18.add ((l12 : Int).toNat * 2) = p18 at h
          refine wpR_val (v := (Value.pointer (some p18))) (w' := w1) (wantG rfl rfl rfl hc17) rfl rfl ((x_indexAddr (s := p0) rfl rfl rfl ES_25 q18 r18).trans (by rw [hp18])) ?_
          refine wpR_val (v := (Value.pointer (some (p18.add 0)))) (w' := w1) (wantG rfl rfl rfl hc17) rfl rfl (x_fieldAddr rfl rfl FA_56_0) ?_
          obtain ⟨x19, q19, h⟩ := h
          refine wpR_val (v := (Value.int .i64 x19)) (w' := w1) (wantG rfl rfl rfl hc17) rfl rfl (x_load1 rfl rfl SH_3 q19) ?_
          refine wpR_val (v := (Value.bool (decide (20 < x19)))) (w' := w1) (wantG rfl rfl rfl hc17) rfl rfl (x_gtr rfl rfl rfl) ?_
          refine wpR_val (v := (Value.bool (decide (20 < x19)))) (w' := w1) rfl rfl rfl (x_pickF (v := (Value.bool (decide (20 < x19)))) rfl rfl hc17 rfl) ?_
          refine wpR_nil ?_
          exact ⟨decide (20 < x19), ⟨rfl, e0, e5, trivial⟩, h, rfl⟩
      clear h
      rintro c20 ρ wj ⟨e33, e0, e5, -⟩ ⟨h, rfl⟩
      replace h := hk c20 h
      clear hk
      refine wpR_val (v := (Value.bool c20)) (w' := w1) rfl rfl rfl (x_move (v := (Value.bool c20)) rfl e33) ?_
      obtain ⟨J21, h, hk⟩ := h
      refine wpR_joinJ 7 (fun x ρ => ρ 41 = Value.bool x ∧ ρ 0 = (Sl.v p0) ∧ ρ 5 = (Value.int .i64 l12) ∧ True) (fun x w => J21 x ∧ w1 = w) ?_ ?_
      · clear hk
        rcases Bool.eq_false_or_eq_true (c20) with hc22 | hc22
        · replace h := h.1 hc22
          refine wpR_pass (wantN rfl rfl rfl hc22) rfl rfl ?_
          refine wpR_pass (wantN rfl rfl rfl hc22) rfl rfl ?_
          refine wpR_pass (wantN rfl rfl rfl hc22) rfl rfl ?_
          refine wpR_pass (wantN rfl rfl rfl hc22) rfl rfl ?_
          refine wpR_pass (wantN rfl rfl rfl hc22) rfl rfl ?_
          refine wpR_pass (wantN rfl rfl rfl hc22) rfl rfl ?_
          refine wpR_val (v := (Value.bool true)) (w' := w1) rfl rfl rfl (x_pickT (v := (Value.bool true)) rfl rfl hc22 rfl) ?_
          refine wpR_nil ?_
          exact ⟨true, ⟨rfl, e0, e5, trivial⟩, h, rfl⟩
        · replace h := h.2 hc22
          refine wpR_val (v := (Sl.v p0)) (w' := w1) (wantG rfl rfl rfl hc22) rfl rfl (x_move (v := (Sl.v p0)) rfl e0) ?_
          refine wpR_val (v := (Value.int .i64 l12)) (w' := w1) (wantG rfl rfl rfl hc22) rfl rfl (x_move (v := (Value.int .i64 l12)) rfl e5) ?_
          obtain ⟨q23, z23, r23, h⟩ := h
          generalize hp23 : z23.add ((l12 : Int).toNat * 2) = p23 at h
          refine wpR_val (v := (Value.pointer (some p23))) (w' := w1) (wantG rfl rfl rfl hc22) rfl rfl ((x_indexAddr (s := p0) rfl rfl rfl ES_25 q23 r23).trans (by rw [hp23])) ?_
          refine wpR_val (v := (Value.pointer (some (p23.add 1)))) (w' := w1) (wantG rfl rfl rfl hc22) rfl rfl (x_fieldAddr rfl rfl FA_56_1) ?_
          obtain ⟨x24, q24, h⟩ := h
          refine wpR_val (v := (Value.int .i64 x24)) (w' := w1) (wantG rfl rfl rfl hc22) rfl rfl (x_load1 rfl rfl SH_3 q24) ?_
          refine wpR_val (v := (Value.bool (decide (x24 < 0)))) (w' := w1) (wantG rfl rfl rfl hc22) rfl rfl (x_lss rfl rfl rfl) ?_
          refine wpR_val (v := (Value.bool (decide (x24 < 0)))) (w' := w1) rfl rfl rfl (x_pickF (v := (Value.bool (decide (x24 < 0)))) rfl rfl hc22 rfl) ?_
          refine wpR_nil ?_
          exact ⟨decide (x24 < 0), ⟨rfl, e0, e5, trivial⟩, h, rfl⟩
      clear h
      rintro c25 ρ wj ⟨e41, e0, e5, -⟩ ⟨h, rfl⟩
      replace h := hk c25 h
      clear hk
      refine wpR_val (v := (Value.bool c25)) (w' := w1) rfl rfl rfl (x_move (v := (Value.bool c25)) rfl e41) ?_
      obtain ⟨J26, h, hk⟩ := h
      refine wpR_joinJ 7 (fun x ρ => ρ 49 = Value.bool x ∧ ρ 0 = (Sl.v p0) ∧ ρ 5 = (Value.int .i64 l12) ∧ True) (fun x w => J26 x ∧ w1 = w) ?_ ?_
      · clear hk
        rcases Bool.eq_false_or_eq_true (c25) with hc27 | hc27
        · replace h := h.1 hc27
          refine wpR_pass (wantN rfl rfl rfl hc27) rfl rfl ?_
          refine wpR_pass (wantN rfl rfl rfl hc27) rfl rfl ?_
          refine wpR_pass (wantN rfl rfl rfl hc27) rfl rfl ?_
          refine wpR_pass (wantN rfl rfl rfl hc27) rfl rfl ?_
          refine wpR_pass (wantN rfl rfl rfl hc27) rfl rfl ?_
          refine wpR_pass (wantN rfl rfl rfl hc27) rfl rfl ?_
          refine wpR_val (v := (Value.bool true)) (w' := w1) rfl rfl rfl (x_pickT (v := (Value.bool true)) rfl rfl hc27 rfl) ?_
          refine wpR_nil ?_
          exact ⟨true, ⟨rfl, e0, e5, trivial⟩, h, rfl⟩
        · replace h := h.2 hc27
          refine wpR_val (v := (Sl.v p0)) (w' := w1) (wantG rfl rfl rfl hc27) rfl rfl (x_move (v := (Sl.v p0)) rfl e0) ?_
          refine wpR_val (v := (Value.int .i64 l12)) (w' := w1) (wantG rfl rfl rfl hc27) rfl rfl (x_move (v := (Value.int .i64 l12)) rfl e5) ?_
          obtain ⟨q28, z28, r28, h⟩ := h
          generalize hp28 : z28.add ((l12 : Int).toNat * 2) = p28 at h
          refine wpR_val (v := (Value.pointer (some p28))) (w' := w1) (wantG rfl rfl rfl hc27) rfl rfl ((x_indexAddr (s := p0) rfl rfl rfl ES_25 q28 r28).trans (by rw [hp28])) ?_
          refine wpR_val (v := (Value.pointer (some (p28.add 1)))) (w' := w1) (wantG rfl rfl rfl hc27) rfl rfl (x_fieldAddr rfl rfl FA_56_1) ?_
          obtain ⟨x29, q29, h⟩ := h
          refine wpR_val (v := (Value.int .i64 x29)) (w' := w1) (wantG rfl rfl rfl hc27) rfl rfl (x_load1 rfl rfl SH_3 q29) ?_
          refine wpR_val (v := (Value.bool (decide (2147483647 ≤ x29)))) (w' := w1) (wantG rfl rfl rfl hc27) rfl rfl (x_geq rfl rfl rfl) ?_
          refine wpR_val (v := (Value.bool (decide (2147483647 ≤ x29)))) (w' := w1) rfl rfl rfl (x_pickF (v := (Value.bool (decide (2147483647 ≤ x29)))) rfl rfl hc27 rfl) ?_
          refine wpR_nil ?_
          exact ⟨decide (2147483647 ≤ x29), ⟨rfl, e0, e5, trivial⟩, h, rfl⟩
      clear h
      rintro c30 ρ wj ⟨e49, e0, e5, -⟩ ⟨h, rfl⟩
      replace h := hk c30 h
      clear hk
      refine wpR_nil ?_
      refine wpC_cond (b := c30) e49 (fun hc31 => ?_) (fun hc31 => ?_)
      · replace h := h.1 hc31
        refine wpC_seq ?_
        refine wpC_region ?_
        refine wpR_val (v := (Value.int .i64 1)) (w' := w1) rfl rfl rfl (x_assign (v := (Value.int .i64 1)) rfl rfl) ?_
        refine wpR_nil ?_
        refine wpC_ret ?_
        exact ⟨.inl rfl, fun a ha => ⟨_, results_rep1 rfl ha rfl, 1, rfl, h⟩⟩
      · replace h := h.2 hc31
        refine wpC_skip ?_
        refine wpC_region ?_
        refine wpR_val (v := (Value.int .i64 l12)) (w' := w1) rfl rfl rfl (x_move (v := (Value.int .i64 l12)) rfl e5) ?_
        refine wpR_val (v := (Value.int .i64 (IntKind.i64.wrap (l12 + 1)))) (w' := w1) rfl rfl rfl (x_add rfl rfl rfl) ?_
        refine wpR_val (v := (Value.int .i64 (IntKind.i64.wrap (l12 + 1)))) (w' := w1) rfl rfl rfl (x_assign (v := (Value.int .i64 (IntKind.i64.wrap (l12 + 1)))) rfl rfl) ?_
        refine wpR_nil ?_
        exact ⟨IntKind.i64.wrap (l12 + 1), ⟨rfl, e0, trivial⟩, h⟩
    · replace h := h.2 hc13
      refine wpC_exit ?_
      refine wpC_seq ?_
      refine wpC_seq ?_
      refine wpC_cut (fun ρ => ρ 0 = (Sl.v p0) ∧ True) ⟨e0, trivial⟩ ?_
      rintro ρ ⟨e0, -⟩
      refine wpC_region ?_
      refine wpR_val (v := (Value.int .i64 0)) (w' := w1) rfl rfl rfl (x_assign (v := (Value.int .i64 0)) rfl rfl) ?_
      refine wpR_nil ?_
      refine wpC_block ?_
      obtain ⟨I32, μ32, hI32, hr32⟩ := h
      refine wpC_loop (fun (x : Int) ρ => ρ 6 = (Value.int .i64 x) ∧ ρ 0 = (Sl.v p0) ∧ True) I32 μ32 0 ⟨rfl, e0, trivial⟩ hI32 ?_
      rintro l32 ρ w2 ⟨e6, e0, -⟩ h
      replace h := hr32 l32 w2 h
      clear hr32 hI32
      refine wpC_seq ?_
      refine wpC_seq ?_
      refine wpC_region ?_
      refine wpR_val (v := (Value.int .i64 l32)) (w' := w2) rfl rfl rfl (x_move (v := (Value.int .i64 l32)) rfl e6) ?_
      refine wpR_val (v := (Sl.v p0)) (w' := w2) rfl rfl rfl (x_move (v := (Sl.v p0)) rfl e0) ?_
      refine wpR_val (v := (Value.int .i64 (p0.len : Int))) (w' := w2) rfl rfl rfl (x_lenS (s := p0) rfl rfl isSliceT_25) ?_
      refine wpR_val (v := (Value.bool (decide (l32 < (p0.len : Int))))) (w' := w2) rfl rfl rfl (x_lss rfl rfl rfl) ?_
      refine wpR_val (v := (Value.bool (decide (l32 < (p0.len : Int))))) (w' := w2) rfl rfl rfl (x_move (v := (Value.bool (decide (l32 < (p0.len : Int))))) rfl rfl) ?_
      refine wpR_joinJ 3 (fun (_ : Unit) ρ => ρ 57 = Value.bool ((decide (l32 < (p0.len : Int))) && (decide (l32 ≤ 20))) ∧ ρ 0 = (Sl.v p0) ∧ ρ 6 = (Value.int .i64 l32) ∧ True) (fun _ w => w2 = w) ?_ ?_
      · clear h
        rcases Bool.eq_false_or_eq_true (decide (l32 < (p0.len : Int))) with hc34 | hc34
        · skip
          refine wpR_val (v := (Value.int .i64 l32)) (w' := w2) (wantG rfl rfl rfl hc34) rfl rfl (x_move (v := (Value.int .i64 l32)) rfl e6) ?_
          refine wpR_val (v := (Value.bool (decide (l32 ≤ 20)))) (w' := w2) (wantG rfl rfl rfl hc34) rfl rfl (x_leq rfl rfl rfl) ?_
          refine wpR_val (v := (Value.bool (decide (l32 ≤ 20)))) (w' := w2) rfl rfl rfl (x_pickT (v := (Value.bool (decide (l32 ≤ 20)))) rfl rfl hc34 rfl) ?_
          refine wpR_nil ?_
          exact ⟨(), ⟨(by rw [hc34]; rfl), e0, e6, trivial⟩, rfl⟩
        · skip
          refine wpR_pass (wantN rfl rfl rfl hc34) rfl rfl ?_
          refine wpR_pass (wantN rfl rfl rfl hc34) rfl rfl ?_
          refine wpR_val (v := (Value.bool false)) (w' := w2) rfl rfl rfl (x_pickF (v := (Value.bool false)) rfl rfl hc34 rfl) ?_
          refine wpR_nil ?_
          exact ⟨(), ⟨(by rw [hc34]; rfl), e0, e6, trivial⟩, rfl⟩
      rintro _ ρ wj ⟨e57, e0, e6, -⟩ rfl
      refine wpR_nil ?_
      refine wpC_cond (b := (decide (l32 < (p0.len : Int))) && (decide (l32 ≤ 20))) e57 (fun hc35 => ?_) (fun hc35 => ?_)
      · replace h := h.1 hc35
        refine wpC_skip ?_
        refine wpC_seq ?_
        refine wpC_block ?_
        refine wpC_seq ?_
        refine wpC_region ?_
        refine wpR_val (v := (Value.int .i64 0)) (w' := w2) rfl rfl rfl (x_assign (v := (Value.int .i64 0)) rfl rfl) ?_
        refine wpR_nil ?_
        refine wpC_block ?_
        obtain ⟨I36, μ36, hI36, hr36⟩ := h
        refine wpC_loop (fun (x : Int) ρ => ρ 7 = (Value.int .i64 x) ∧ ρ 0 = (Sl.v p0) ∧ ρ 6 = (Value.int .i64 l32) ∧ True) I36 μ36 0 ⟨rfl, e0, e6, trivial⟩ hI36 ?_
        rintro l36 ρ w3 ⟨e7, e0, e6, -⟩ h
        replace h := hr36 l36 w3 h
        clear hr36 hI36
        refine wpC_seq ?_
        refine wpC_seq ?_
        refine wpC_region ?_
        refine wpR_val (v := (Value.int .i64 l36)) (w' := w3) rfl rfl rfl (x_move (v := (Value.int .i64 l36)) rfl e7) ?_
        refine wpR_val (v := (Value.int .i64 l32)) (w' := w3) rfl rfl rfl (x_move (v := (Value.int .i64 l32)) rfl e6) ?_
        refine wpR_val (v := (Value.bool (decide (l36 < l32)))) (w' := w3) rfl rfl rfl (x_lss rfl rfl rfl) ?_
        refine wpR_nil ?_
        refine wpC_cond (b := decide (l36 < l32)) rfl (fun hc37 => ?_) (fun hc37 => ?_)
        · replace h := h.1 hc37
          refine wpC_skip ?_
          refine wpC_seq ?_
          refine wpC_block ?_
          refine wpC_seq ?_
          refine wpC_cut (fun ρ => ρ 0 = (Sl.v p0) ∧ ρ 6 = (Value.int .i64 l32) ∧ ρ 7 = (Value.int .i64 l36) ∧ True) ⟨e0, e6, e7, trivial⟩ ?_
          rintro ρ ⟨e0, e6, e7, -⟩
          obtain ⟨J39, h, hk⟩ := h
          refine wpC_drawJ (by kernel_rfl) (fun (x : Bool) ρ => ρ 75 = (Value.bool x) ∧ ρ 0 = (Sl.v p0) ∧ ρ 6 = (Value.int .i64 l32) ∧ ρ 7 = (Value.int .i64 l36) ∧ True) J39 ?_ ?_
          · clear hk
            unfold tk at h
            generalize w3.drew = w4 at h ⊢
            refine wpD_take (v := (Sl.v p0)) 0 (fun _ => True) rfl (by kernel_rfl) (by kernel_rfl) (by kernel_rfl) rfl rfl rfl trivial (fun w _ => (x_move (v := (Sl.v p0)) rfl e0)) ?_
            refine wpD_take (v := (Value.int .i64 l32)) 1 (fun _ => True) rfl (by kernel_rfl) (by kernel_rfl) (by kernel_rfl) rfl rfl rfl trivial (fun w _ => (x_move (v := (Value.int .i64 l32)) rfl e6)) ?_
            obtain ⟨q40, z40, r40, h⟩ := h
            generalize hp40 : z40.add ((l32 : Int).toNat * 2) = p40 at h
            refine wpD_take (v := (Value.pointer (some p40))) 2 (fun _ => True) rfl (by kernel_rfl) (by kernel_rfl) (by kernel_rfl) rfl rfl rfl trivial (fun w _ => ((x_indexAddr (s := p0) rfl rfl rfl ES_25 q40 r40).trans (by rw [hp40]))) ?_
            refine wpD_take (v := (Value.pointer (some (p40.add 0)))) 3 (fun _ => True) rfl (by kernel_rfl) (by kernel_rfl) (by kernel_rfl) rfl rfl rfl trivial (fun w _ => (x_fieldAddr rfl rfl FA_56_0)) ?_
            obtain ⟨x41, q41, h⟩ := h
            refine wpD_take (v := (Value.int .i64 x41)) 4 (fun w => w.cell? (p40.add 0) = some (Value.int .i64 x41)) rfl (by kernel_rfl) (by kernel_rfl) (by kernel_rfl) rfl rfl rfl q41 (fun w q41 => (x_load1 rfl rfl SH_3 q41)) ?_
            refine wpD_take (v := (Sl.v p0)) 5 (fun _ => True) rfl (by kernel_rfl) (by kernel_rfl) (by kernel_rfl) rfl rfl rfl trivial (fun w _ => (x_move (v := (Sl.v p0)) rfl e0)) ?_
            refine wpD_take (v := (Value.int .i64 l36)) 6 (fun _ => True) rfl (by kernel_rfl) (by kernel_rfl) (by kernel_rfl) rfl rfl rfl trivial (fun w _ => (x_move (v := (Value.int .i64 l36)) rfl e7)) ?_
            obtain ⟨q42, z42, r42, h⟩ := h
            generalize hp42 : z42.add ((l36 : Int).toNat * 2) = p42 at h
            refine wpD_take (v := (Value.pointer (some p42))) 7 (fun _ => True) rfl (by kernel_rfl) (by kernel_rfl) (by kernel_rfl) rfl rfl rfl trivial (fun w _ => ((x_indexAddr (s := p0) rfl rfl rfl ES_25 q42 r42).trans (by rw [hp42]))) ?_
            refine wpD_take (v := (Value.pointer (some (p42.add 0)))) 8 (fun _ => True) rfl (by kernel_rfl) (by kernel_rfl) (by kernel_rfl) rfl rfl rfl trivial (fun w _ => (x_fieldAddr rfl rfl FA_56_0)) ?_
            obtain ⟨x43, q43, h⟩ := h
            refine wpD_take (v := (Value.int .i64 x43)) 9 (fun w => w.cell? (p42.add 0) = some (Value.int .i64 x43)) rfl (by kernel_rfl) (by kernel_rfl) (by kernel_rfl) rfl rfl rfl q43 (fun w q43 => (x_load1 rfl rfl SH_3 q43)) ?_
            refine wpD_take (v := (Value.bool (decide (x41 = x43)))) 10 (fun _ => True) rfl (by kernel_rfl) (by kernel_rfl) (by kernel_rfl) rfl rfl rfl trivial (fun w _ => (x_eql rfl rfl rfl)) ?_
            exact wpD_done (by kernel_rfl) ⟨decide (x41 = x43), ⟨rfl, e0, e6, e7, trivial⟩, h⟩
          clear h
          rintro l44 ρ w5 ⟨e75, e0, e6, e7, -⟩ h
          replace h := hk l44 w5 h
          clear hk
          refine wpC_cond (b := l44) e75 (fun hc45 => ?_) (fun hc45 => ?_)
          · replace h := h.1 hc45
            refine wpC_seq ?_
            refine wpC_region ?_
            refine wpR_val (v := (Value.int .i64 5)) (w' := w5) rfl rfl rfl (x_assign (v := (Value.int .i64 5)) rfl rfl) ?_
            refine wpR_nil ?_
            refine wpC_ret ?_
            exact ⟨.inl rfl, fun a ha => ⟨_, results_rep1 rfl ha rfl, 5, rfl, h⟩⟩
          · replace h := h.2 hc45
            refine wpC_skip ?_
            refine wpC_region ?_
            refine wpR_val (v := (Value.int .i64 l36)) (w' := w5) rfl rfl rfl (x_move (v := (Value.int .i64 l36)) rfl e7) ?_
            refine wpR_val (v := (Value.int .i64 (IntKind.i64.wrap (l36 + 1)))) (w' := w5) rfl rfl rfl (x_add rfl rfl rfl) ?_
            refine wpR_val (v := (Value.int .i64 (IntKind.i64.wrap (l36 + 1)))) (w' := w5) rfl rfl rfl (x_assign (v := (Value.int .i64 (IntKind.i64.wrap (l36 + 1)))) rfl rfl) ?_
            refine wpR_nil ?_
            exact ⟨IntKind.i64.wrap (l36 + 1), ⟨rfl, e0, e6, trivial⟩, h⟩
        · replace h := h.2 hc37
          refine wpC_exit ?_
          refine wpC_cut (fun ρ => ρ 0 = (Sl.v p0) ∧ ρ 6 = (Value.int .i64 l32) ∧ True) ⟨e0, e6, trivial⟩ ?_
          rintro ρ ⟨e0, e6, -⟩
          refine wpC_region ?_
          refine wpR_val (v := (Value.int .i64 l32)) (w' := w3) rfl rfl rfl (x_move (v := (Value.int .i64 l32)) rfl e6) ?_
          refine wpR_val (v := (Value.int .i64 (IntKind.i64.wrap (l32 + 1)))) (w' := w3) rfl rfl rfl (x_add rfl rfl rfl) ?_
          refine wpR_val (v := (Value.int .i64 (IntKind.i64.wrap (l32 + 1)))) (w' := w3) rfl rfl rfl (x_assign (v := (Value.int .i64 (IntKind.i64.wrap (l32 + 1)))) rfl rfl) ?_
          refine wpR_nil ?_
          exact ⟨IntKind.i64.wrap (l32 + 1), ⟨rfl, e0, trivial⟩, h⟩
      · replace h := h.2 hc35
        refine wpC_exit ?_
        refine wpC_seq ?_
        refine wpC_region ?_
        refine wpR_val (v := (Value.int .i64 0)) (w' := w2) rfl rfl rfl (x_assign (v := (Value.int .i64 0)) rfl rfl) ?_
        refine wpR_nil ?_
        refine wpC_ret ?_
        exact ⟨.inl rfl, fun a ha => ⟨_, results_rep1 rfl ha rfl, 0, rfl, h⟩⟩


end Go.Proofs.Ytmnhehklhelpeaa
