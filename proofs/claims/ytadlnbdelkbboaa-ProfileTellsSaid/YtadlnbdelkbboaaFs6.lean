import Derived.Test.YtadlnbdelkbboaaRows
import Derived.Test.YtadlnbdelkbboaaFs1
import Derived.Test.YtadlnbdelkbboaaDecRaw
namespace Go.Proofs.Ytadlnbdelkbboaa
open Go.Dec
set_option maxHeartbeats 400000
set_option maxRecDepth 100000

/-- slices.Index[[]string,string] -/
def F38 (p0 : Sl) (p1 : ByteArray) (w0 : World) (K : Int → World → Prop) : Prop :=
  lp (fun (next1 : Int → World → Prop) l1 w1 =>
    cnd (decide (l1 < (p0.len : Int)))
      (
      ix p0 l1 1 fun p3 =>
      ld Value.string p3 w1 fun x4 =>
      cnd (beqS p1 x4)
        (
        K l1 w1
        )
        (
        next1 (IntKind.i64.wrap (l1 + 1)) w1
        )
      )
      (
      K (-1) w1
      )
  ) 0 w0
set_option maxRecDepth 100000 in
theorem D38 (p0 : Sl) (p1 : ByteArray) (w0 : World) (K : Int → World → Prop) (h : F38 p0 p1 w0 K) : callC Try.prog 38 #[(Sl.v p0), (Value.string p1)] (fun (r : Int) => (Value.int .i64 r)) w0 K := by
  unfold F38 at h
  refine calls_of_wpC Try.func38 rfl 19 rfl (by simp) ?_
  intro ρ hρ
  have e0 : ρ 0 = (Sl.v p0) := hρ 0
  have e1 : ρ 1 = (Value.string p1) := hρ 1
  clear hρ
  refine wpC_seq ?_
  refine wpC_region ?_
  refine wpR_val (v := (Value.int .i64 0)) (w' := w0) rfl rfl rfl (x_assign (v := (Value.int .i64 0)) rfl rfl) ?_
  refine wpR_nil ?_
  refine wpC_seq ?_
  refine wpC_seq ?_
  refine wpC_cut (fun ρ => ρ 0 = (Sl.v p0) ∧ ρ 1 = (Value.string p1) ∧ True) ⟨e0, e1, trivial⟩ ?_
  rintro ρ ⟨e0, e1, -⟩
  refine wpC_region ?_
  refine wpR_val (v := (Sl.v p0)) (w' := w0) rfl rfl rfl (x_move (v := (Sl.v p0)) rfl e0) ?_
  refine wpR_val (v := (Value.int .i64 (p0.len : Int))) (w' := w0) rfl rfl rfl (x_lenS (s := p0) rfl rfl isSliceT_22) ?_
  refine wpR_val (v := (Value.int .i64 0)) (w' := w0) rfl rfl rfl (x_move (v := (Value.int .i64 0)) rfl rfl) ?_
  refine wpR_nil ?_
  refine wpC_block ?_
  obtain ⟨I1, μ1, hI1, hr1⟩ := h
  refine wpC_loop (fun (x : Int) ρ => ρ 8 = (Value.int .i64 x) ∧ ρ 0 = (Sl.v p0) ∧ ρ 1 = (Value.string p1) ∧ ρ 7 = (Value.int .i64 (p0.len : Int)) ∧ True) I1 μ1 0 ⟨rfl, e0, e1, rfl, trivial⟩ hI1 ?_
  rintro l1 ρ w1 ⟨e8, e0, e1, e7, -⟩ h
  replace h := hr1 l1 w1 h
  clear hr1 hI1
  refine wpC_seq ?_
  refine wpC_region ?_
  refine wpR_val (v := (Value.bool (decide (l1 < (p0.len : Int))))) (w' := w1) rfl rfl rfl (x_lss rfl e8 e7) ?_
  refine wpR_nil ?_
  refine wpC_seq ?_
  refine wpC_cond (b := decide (l1 < (p0.len : Int))) rfl (fun hc2 => ?_) (fun hc2 => ?_)
  · replace h := h.1 hc2
    refine wpC_skip ?_
    refine wpC_seq ?_
    refine wpC_block ?_
    refine wpC_seq ?_
    refine wpC_cut (fun ρ => ρ 0 = (Sl.v p0) ∧ ρ 1 = (Value.string p1) ∧ ρ 7 = (Value.int .i64 (p0.len : Int)) ∧ ρ 8 = (Value.int .i64 l1) ∧ True) ⟨e0, e1, e7, e8, trivial⟩ ?_
    rintro ρ ⟨e0, e1, e7, e8, -⟩
    refine wpC_region ?_
    refine wpR_val (v := (Value.int .i64 l1)) (w' := w1) rfl rfl rfl (x_move (v := (Value.int .i64 l1)) rfl e8) ?_
    refine wpR_val (v := (Value.int .i64 l1)) (w' := w1) rfl rfl rfl (x_assign (v := (Value.int .i64 l1)) rfl rfl) ?_
    refine wpR_nil ?_
    refine wpC_seq ?_
    refine wpC_cut (fun ρ => ρ 0 = (Sl.v p0) ∧ ρ 1 = (Value.string p1) ∧ ρ 5 = (Value.int .i64 l1) ∧ ρ 7 = (Value.int .i64 (p0.len : Int)) ∧ ρ 8 = (Value.int .i64 l1) ∧ True) ⟨e0, e1, rfl, e7, e8, trivial⟩ ?_
    rintro ρ ⟨e0, e1, e5, e7, e8, -⟩
    refine wpC_region ?_
    refine wpR_val (v := (Value.string p1)) (w' := w1) rfl rfl rfl (x_move (v := (Value.string p1)) rfl e1) ?_
    refine wpR_val (v := (Sl.v p0)) (w' := w1) rfl rfl rfl (x_move (v := (Sl.v p0)) rfl e0) ?_
    refine wpR_val (v := (Value.int .i64 l1)) (w' := w1) rfl rfl rfl (x_move (v := (Value.int .i64 l1)) rfl e5) ?_
    obtain ⟨q3, z3, r3, h⟩ := h
    generalize hp3 : z3.add ((l1 : Int).toNat * 1) = p3 at h
    refine wpR_val (v := (Value.pointer (some p3))) (w' := w1) rfl rfl rfl ((x_indexAddr (s := p0) rfl rfl rfl ES_22 q3 r3).trans (by rw [hp3])) ?_
    obtain ⟨x4, q4, h⟩ := h
    refine wpR_val (v := (Value.string x4)) (w' := w1) rfl rfl rfl (x_load1 rfl rfl SH_9 q4) ?_
    refine wpR_val (v := (Value.bool (beqS p1 x4))) (w' := w1) rfl rfl rfl (x_eqlS rfl rfl rfl) ?_
    refine wpR_nil ?_
    refine wpC_cond (b := beqS p1 x4) rfl (fun hc5 => ?_) (fun hc5 => ?_)
    · replace h := h.1 hc5
      refine wpC_seq ?_
      refine wpC_cut (fun ρ => ρ 5 = (Value.int .i64 l1) ∧ True) ⟨e5, trivial⟩ ?_
      rintro ρ ⟨e5, -⟩
      refine wpC_region ?_
      refine wpR_val (v := (Value.int .i64 l1)) (w' := w1) rfl rfl rfl (x_move (v := (Value.int .i64 l1)) rfl e5) ?_
      refine wpR_val (v := (Value.int .i64 l1)) (w' := w1) rfl rfl rfl (x_assign (v := (Value.int .i64 l1)) rfl rfl) ?_
      refine wpR_nil ?_
      refine wpC_ret ?_
      exact ⟨.inl rfl, fun a ha => ⟨_, results_rep1 rfl ha rfl, l1, rfl, h⟩⟩
    · replace h := h.2 hc5
      refine wpC_skip ?_
      refine wpC_cut (fun ρ => ρ 0 = (Sl.v p0) ∧ ρ 1 = (Value.string p1) ∧ ρ 7 = (Value.int .i64 (p0.len : Int)) ∧ ρ 8 = (Value.int .i64 l1) ∧ True) ⟨e0, e1, e7, e8, trivial⟩ ?_
      rintro ρ ⟨e0, e1, e7, e8, -⟩
      refine wpC_region ?_
      refine wpR_val (v := (Value.int .i64 (IntKind.i64.wrap (l1 + 1)))) (w' := w1) rfl rfl rfl (x_add rfl e8 rfl) ?_
      refine wpR_val (v := (Value.int .i64 (IntKind.i64.wrap (l1 + 1)))) (w' := w1) rfl rfl rfl (x_move (v := (Value.int .i64 (IntKind.i64.wrap (l1 + 1)))) rfl rfl) ?_
      refine wpR_nil ?_
      exact ⟨IntKind.i64.wrap (l1 + 1), ⟨rfl, e0, e1, e7, trivial⟩, h⟩
  · replace h := h.2 hc2
    refine wpC_exit ?_
    refine wpC_seq ?_
    refine wpC_cut (fun ρ => True) trivial ?_
    rintro ρ -
    refine wpC_region ?_
    refine wpR_val (v := (Value.int .i64 (-1))) (w' := w1) rfl rfl rfl (x_assign (v := (Value.int .i64 (-1))) rfl rfl) ?_
    refine wpR_nil ?_
    refine wpC_ret ?_
    exact ⟨.inl rfl, fun a ha => ⟨_, results_rep1 rfl ha rfl, (-1), rfl, h⟩⟩

/-- linguaref12.within -/
def F39 (p0 : Int) (p1 : Int) (p2 : Int) (w0 : World) (K : Bool → World → Prop) : Prop :=
  K ((decide (p1 ≤ p0)) && (decide (p0 ≤ p2))) w0
set_option maxRecDepth 100000 in
theorem D39 (p0 : Int) (p1 : Int) (p2 : Int) (w0 : World) (K : Bool → World → Prop) (h : F39 p0 p1 p2 w0 K) : callC Try.prog 39 #[(Value.int .i64 p0), (Value.int .i64 p1), (Value.int .i64 p2)] (fun (r : Bool) => (Value.bool r)) w0 K := by
  unfold F39 at h
  refine calls_of_wpC Try.func39 rfl 15 rfl (by simp) ?_
  intro ρ hρ
  have e0 : ρ 0 = (Value.int .i64 p0) := hρ 0
  have e1 : ρ 1 = (Value.int .i64 p1) := hρ 1
  have e2 : ρ 2 = (Value.int .i64 p2) := hρ 2
  clear hρ
  refine wpC_seq ?_
  refine wpC_region ?_
  refine wpR_val (v := (Value.bool false)) (w' := w0) rfl rfl rfl (x_assign (v := (Value.bool false)) rfl rfl) ?_
  refine wpR_nil ?_
  refine wpC_seq ?_
  refine wpC_cut (fun ρ => ρ 0 = (Value.int .i64 p0) ∧ ρ 1 = (Value.int .i64 p1) ∧ ρ 2 = (Value.int .i64 p2) ∧ True) ⟨e0, e1, e2, trivial⟩ ?_
  rintro ρ ⟨e0, e1, e2, -⟩
  refine wpC_region ?_
  refine wpR_val (v := (Value.int .i64 p0)) (w' := w0) rfl rfl rfl (x_move (v := (Value.int .i64 p0)) rfl e0) ?_
  refine wpR_val (v := (Value.int .i64 p1)) (w' := w0) rfl rfl rfl (x_move (v := (Value.int .i64 p1)) rfl e1) ?_
  refine wpR_val (v := (Value.bool (decide (p1 ≤ p0)))) (w' := w0) rfl rfl rfl (x_geq rfl rfl rfl) ?_
  refine wpR_val (v := (Value.bool (decide (p1 ≤ p0)))) (w' := w0) rfl rfl rfl (x_move (v := (Value.bool (decide (p1 ≤ p0)))) rfl rfl) ?_
  refine wpR_joinJ 4 (fun (_ : Unit) ρ => ρ 14 = Value.bool ((decide (p1 ≤ p0)) && (decide (p0 ≤ p2))) ∧ True) (fun _ w => w0 = w) ?_ ?_
  · clear h
    rcases Bool.eq_false_or_eq_true (decide (p1 ≤ p0)) with hc2 | hc2
    · skip
      refine wpR_val (v := (Value.int .i64 p0)) (w' := w0) (wantG rfl rfl rfl hc2) rfl rfl (x_move (v := (Value.int .i64 p0)) rfl e0) ?_
      refine wpR_val (v := (Value.int .i64 p2)) (w' := w0) (wantG rfl rfl rfl hc2) rfl rfl (x_move (v := (Value.int .i64 p2)) rfl e2) ?_
      refine wpR_val (v := (Value.bool (decide (p0 ≤ p2)))) (w' := w0) (wantG rfl rfl rfl hc2) rfl rfl (x_leq rfl rfl rfl) ?_
      refine wpR_val (v := (Value.bool (decide (p0 ≤ p2)))) (w' := w0) rfl rfl rfl (x_pickT (v := (Value.bool (decide (p0 ≤ p2)))) rfl rfl hc2 rfl) ?_
      refine wpR_nil ?_
      exact ⟨(), ⟨(by rw [hc2]; rfl), trivial⟩, rfl⟩
    · skip
      refine wpR_pass (wantN rfl rfl rfl hc2) rfl rfl ?_
      refine wpR_pass (wantN rfl rfl rfl hc2) rfl rfl ?_
      refine wpR_pass (wantN rfl rfl rfl hc2) rfl rfl ?_
      refine wpR_val (v := (Value.bool false)) (w' := w0) rfl rfl rfl (x_pickF (v := (Value.bool false)) rfl rfl hc2 rfl) ?_
      refine wpR_nil ?_
      exact ⟨(), ⟨(by rw [hc2]; rfl), trivial⟩, rfl⟩
  rintro _ ρ wj ⟨e14, -⟩ rfl
  refine wpR_val (v := (Value.bool ((decide (p1 ≤ p0)) && (decide (p0 ≤ p2))))) (w' := w0) rfl rfl rfl (x_assign (v := (Value.bool ((decide (p1 ≤ p0)) && (decide (p0 ≤ p2))))) rfl e14) ?_
  refine wpR_nil ?_
  refine wpC_ret ?_
  exact ⟨.inl rfl, fun a ha => ⟨_, results_rep1 rfl ha rfl, (decide (p1 ≤ p0)) && (decide (p0 ≤ p2)), rfl, h⟩⟩

/-- linguaref11.Word -/
def F40 (p0 : ByteArray) (w0 : World) (K : Bool → World → Prop) : Prop :=
  jn (fun J3 => cnd ((decide ((p0.size : Int) < 1)) || (decide (20 < (p0.size : Int))))
    (
    J3 true w0
    )
    (
    rn Try.prog (Instr.index 9 (Value.string p0) (Value.int .i64 0)) (fun (r : Int) => (Value.int .u8 r)) w0 fun r5 w1 =>
    callC Try.prog 47 #[(Value.int .u8 r5)] (fun (r : Bool) => (Value.bool r)) w1 fun r6 w2 =>
    J3 (!r6) w2
    ))
  fun c7 w3 =>
  cnd (c7)
    (
    K false w3
    )
    (
    lp (fun (next9 : Int → World → Prop) l9 w4 =>
      cnd (decide (l9 < (p0.size : Int)))
        (
        rn Try.prog (Instr.index 9 (Value.string p0) (Value.int .i64 l9)) (fun (r : Int) => (Value.int .u8 r)) w4 fun r11 w5 =>
        callC Try.prog 47 #[(Value.int .u8 r11)] (fun (r : Bool) => (Value.bool r)) w5 fun r12 w6 =>
        jn (fun J13 => cnd (!r12)
          (
          rn Try.prog (Instr.index 9 (Value.string p0) (Value.int .i64 l9)) (fun (r : Int) => (Value.int .u8 r)) w6 fun r15 w7 =>
          callC Try.prog 48 #[(Value.int .u8 r15)] (fun (r : Bool) => (Value.bool r)) w7 fun r16 w8 =>
          J13 (!r16) w8
          )
          (
          J13 false w6
          ))
        fun c17 w9 =>
        cnd (c17)
          (
          K false w9
          )
          (
          next9 (IntKind.i64.wrap (l9 + 1)) w9
          )
        )
        (
        K true w4
        )
    ) 1 w3
    )
set_option maxRecDepth 100000 in
theorem D40 (p0 : ByteArray) (w0 : World) (K : Bool → World → Prop) (h : F40 p0 w0 K) : callC Try.prog 40 #[(Value.string p0)] (fun (r : Bool) => (Value.bool r)) w0 K := by
  unfold F40 at h
  refine calls_of_wpC Try.func40 rfl 36 rfl (by simp) ?_
  intro ρ hρ
  have e0 : ρ 0 = (Value.string p0) := hρ 0
  clear hρ
  refine wpC_seq ?_
  refine wpC_region ?_
  refine wpR_val (v := (Value.bool false)) (w' := w0) rfl rfl rfl (x_assign (v := (Value.bool false)) rfl rfl) ?_
  refine wpR_nil ?_
  refine wpC_seq ?_
  refine wpC_seq ?_
  refine wpC_cut (fun ρ => ρ 0 = (Value.string p0) ∧ True) ⟨e0, trivial⟩ ?_
  rintro ρ ⟨e0, -⟩
  refine wpC_region ?_
  refine wpR_val (v := (Value.string p0)) (w' := w0) rfl rfl rfl (x_move (v := (Value.string p0)) rfl e0) ?_
  refine wpR_val (v := (Value.int .i64 (p0.size : Int))) (w' := w0) rfl rfl rfl (x_lenStr rfl rfl isStrT_9) ?_
  refine wpR_val (v := (Value.bool (decide ((p0.size : Int) < 1)))) (w' := w0) rfl rfl rfl (x_lss rfl rfl rfl) ?_
  refine wpR_val (v := (Value.bool (decide ((p0.size : Int) < 1)))) (w' := w0) rfl rfl rfl (x_move (v := (Value.bool (decide ((p0.size : Int) < 1)))) rfl rfl) ?_
  refine wpR_joinJ 4 (fun (_ : Unit) ρ => ρ 11 = Value.bool ((decide ((p0.size : Int) < 1)) || (decide (20 < (p0.size : Int)))) ∧ ρ 0 = (Value.string p0) ∧ True) (fun _ w => w0 = w) ?_ ?_
  · clear h
    rcases Bool.eq_false_or_eq_true (decide ((p0.size : Int) < 1)) with hc2 | hc2
    · skip
      refine wpR_pass (wantN rfl rfl rfl hc2) rfl rfl ?_
      refine wpR_pass (wantN rfl rfl rfl hc2) rfl rfl ?_
      refine wpR_pass (wantN rfl rfl rfl hc2) rfl rfl ?_
      refine wpR_val (v := (Value.bool true)) (w' := w0) rfl rfl rfl (x_pickT (v := (Value.bool true)) rfl rfl hc2 rfl) ?_
      refine wpR_nil ?_
      exact ⟨(), ⟨(by rw [hc2]; rfl), e0, trivial⟩, rfl⟩
    · skip
      refine wpR_val (v := (Value.string p0)) (w' := w0) (wantG rfl rfl rfl hc2) rfl rfl (x_move (v := (Value.string p0)) rfl e0) ?_
      refine wpR_val (v := (Value.int .i64 (p0.size : Int))) (w' := w0) (wantG rfl rfl rfl hc2) rfl rfl (x_lenStr rfl rfl isStrT_9) ?_
      refine wpR_val (v := (Value.bool (decide (20 < (p0.size : Int))))) (w' := w0) (wantG rfl rfl rfl hc2) rfl rfl (x_gtr rfl rfl rfl) ?_
      refine wpR_val (v := (Value.bool (decide (20 < (p0.size : Int))))) (w' := w0) rfl rfl rfl (x_pickF (v := (Value.bool (decide (20 < (p0.size : Int))))) rfl rfl hc2 rfl) ?_
      refine wpR_nil ?_
      exact ⟨(), ⟨(by rw [hc2]; rfl), e0, trivial⟩, rfl⟩
  rintro _ ρ wj ⟨e11, e0, -⟩ rfl
  refine wpR_val (v := (Value.bool ((decide ((p0.size : Int) < 1)) || (decide (20 < (p0.size : Int)))))) (w' := w0) rfl rfl rfl (x_move (v := (Value.bool ((decide ((p0.size : Int) < 1)) || (decide (20 < (p0.size : Int)))))) rfl e11) ?_
  obtain ⟨J3, h, hk⟩ := h
  refine wpR_joinJ 5 (fun x ρ => ρ 17 = Value.bool x ∧ ρ 0 = (Value.string p0) ∧ True) (J3) ?_ ?_
  · clear hk
    rcases Bool.eq_false_or_eq_true ((decide ((p0.size : Int) < 1)) || (decide (20 < (p0.size : Int)))) with hc4 | hc4
    · replace h := h.1 hc4
      refine wpR_pass (wantN rfl rfl rfl hc4) rfl rfl ?_
      refine wpR_pass (wantN rfl rfl rfl hc4) rfl rfl ?_
      refine wpR_pass (wantN rfl rfl rfl hc4) rfl rfl ?_
      refine wpR_pass (wantN rfl rfl rfl hc4) rfl rfl ?_
      refine wpR_val (v := (Value.bool true)) (w' := w0) rfl rfl rfl (x_pickT (v := (Value.bool true)) rfl rfl hc4 rfl) ?_
      refine wpR_nil ?_
      exact ⟨true, ⟨rfl, e0, trivial⟩, h⟩
    · replace h := h.2 hc4
      refine wpR_val (v := (Value.string p0)) (w' := w0) (wantG rfl rfl rfl hc4) rfl rfl (x_move (v := (Value.string p0)) rfl e0) ?_
      obtain ⟨r5, w1, q5, h⟩ := h
      refine wpR_val (v := (Value.int .u8 r5)) (w' := w1) (wantG rfl rfl rfl hc4) rfl rfl (x_index rfl rfl rfl q5) ?_
      refine wpR_enter (wantG rfl rfl rfl hc4) rfl rfl (x_call (vs := [(Value.int .u8 r5)]) rfl rfl (mapl_cons rfl mapl_nil) Try.func47 NN_47 NB_47) (Calls.mono h ?_)
      rintro _ w2 ⟨r6, rfl, h⟩
      refine ⟨_, rfl, ?_⟩
      refine wpR_val (v := (Value.bool (!r6))) (w' := w2) (wantG rfl rfl rfl hc4) rfl rfl (x_not rfl rfl) ?_
      refine wpR_val (v := (Value.bool (!r6))) (w' := w2) rfl rfl rfl (x_pickF (v := (Value.bool (!r6))) rfl rfl hc4 rfl) ?_
      refine wpR_nil ?_
      exact ⟨!r6, ⟨rfl, e0, trivial⟩, h⟩
  clear h
  rintro c7 ρ w3 ⟨e17, e0, -⟩ h
  replace h := hk c7 w3 h
  clear hk
  refine wpR_nil ?_
  refine wpC_cond (b := c7) e17 (fun hc8 => ?_) (fun hc8 => ?_)
  · replace h := h.1 hc8
    refine wpC_seq ?_
    refine wpC_region ?_
    refine wpR_val (v := (Value.bool false)) (w' := w3) rfl rfl rfl (x_assign (v := (Value.bool false)) rfl rfl) ?_
    refine wpR_nil ?_
    refine wpC_ret ?_
    exact ⟨.inl rfl, fun a ha => ⟨_, results_rep1 rfl ha rfl, false, rfl, h⟩⟩
  · replace h := h.2 hc8
    refine wpC_skip ?_
    refine wpC_seq ?_
    refine wpC_seq ?_
    refine wpC_region ?_
    refine wpR_val (v := (Value.int .i64 1)) (w' := w3) rfl rfl rfl (x_assign (v := (Value.int .i64 1)) rfl rfl) ?_
    refine wpR_nil ?_
    refine wpC_block ?_
    obtain ⟨I9, μ9, hI9, hr9⟩ := h
    refine wpC_loop (fun (x : Int) ρ => ρ 3 = (Value.int .i64 x) ∧ ρ 0 = (Value.string p0) ∧ True) I9 μ9 1 ⟨rfl, e0, trivial⟩ hI9 ?_
    rintro l9 ρ w4 ⟨e3, e0, -⟩ h
    replace h := hr9 l9 w4 h
    clear hr9 hI9
    refine wpC_seq ?_
    refine wpC_seq ?_
    refine wpC_region ?_
    refine wpR_val (v := (Value.int .i64 l9)) (w' := w4) rfl rfl rfl (x_move (v := (Value.int .i64 l9)) rfl e3) ?_
    refine wpR_val (v := (Value.string p0)) (w' := w4) rfl rfl rfl (x_move (v := (Value.string p0)) rfl e0) ?_
    refine wpR_val (v := (Value.int .i64 (p0.size : Int))) (w' := w4) rfl rfl rfl (x_lenStr rfl rfl isStrT_9) ?_
    refine wpR_val (v := (Value.bool (decide (l9 < (p0.size : Int))))) (w' := w4) rfl rfl rfl (x_lss rfl rfl rfl) ?_
    refine wpR_nil ?_
    refine wpC_cond (b := decide (l9 < (p0.size : Int))) rfl (fun hc10 => ?_) (fun hc10 => ?_)
    · replace h := h.1 hc10
      refine wpC_skip ?_
      refine wpC_seq ?_
      refine wpC_block ?_
      refine wpC_seq ?_
      refine wpC_cut (fun ρ => ρ 0 = (Value.string p0) ∧ ρ 3 = (Value.int .i64 l9) ∧ True) ⟨e0, e3, trivial⟩ ?_
      rintro ρ ⟨e0, e3, -⟩
      refine wpC_region ?_
      refine wpR_val (v := (Value.string p0)) (w' := w4) rfl rfl rfl (x_move (v := (Value.string p0)) rfl e0) ?_
      refine wpR_val (v := (Value.int .i64 l9)) (w' := w4) rfl rfl rfl (x_move (v := (Value.int .i64 l9)) rfl e3) ?_
      obtain ⟨r11, w5, q11, h⟩ := h
      refine wpR_val (v := (Value.int .u8 r11)) (w' := w5) rfl rfl rfl (x_index rfl rfl rfl q11) ?_
      refine wpR_enter rfl rfl rfl (x_call (vs := [(Value.int .u8 r11)]) rfl rfl (mapl_cons rfl mapl_nil) Try.func47 NN_47 NB_47) (Calls.mono h ?_)
      rintro _ w6 ⟨r12, rfl, h⟩
      refine ⟨_, rfl, ?_⟩
      refine wpR_val (v := (Value.bool (!r12))) (w' := w6) rfl rfl rfl (x_not rfl rfl) ?_
      refine wpR_val (v := (Value.bool (!r12))) (w' := w6) rfl rfl rfl (x_move (v := (Value.bool (!r12))) rfl rfl) ?_
      obtain ⟨J13, h, hk⟩ := h
      refine wpR_joinJ 6 (fun x ρ => ρ 35 = Value.bool x ∧ ρ 0 = (Value.string p0) ∧ ρ 3 = (Value.int .i64 l9) ∧ True) (J13) ?_ ?_
      · clear hk
        rcases Bool.eq_false_or_eq_true (!r12) with hc14 | hc14
        · replace h := h.1 hc14
          refine wpR_val (v := (Value.string p0)) (w' := w6) (wantG rfl rfl rfl hc14) rfl rfl (x_move (v := (Value.string p0)) rfl e0) ?_
          refine wpR_val (v := (Value.int .i64 l9)) (w' := w6) (wantG rfl rfl rfl hc14) rfl rfl (x_move (v := (Value.int .i64 l9)) rfl e3) ?_
          obtain ⟨r15, w7, q15, h⟩ := h
          refine wpR_val (v := (Value.int .u8 r15)) (w' := w7) (wantG rfl rfl rfl hc14) rfl rfl (x_index rfl rfl rfl q15) ?_
          refine wpR_enter (wantG rfl rfl rfl hc14) rfl rfl (x_call (vs := [(Value.int .u8 r15)]) rfl rfl (mapl_cons rfl mapl_nil) Try.func48 NN_48 NB_48) (Calls.mono h ?_)
          rintro _ w8 ⟨r16, rfl, h⟩
          refine ⟨_, rfl, ?_⟩
          refine wpR_val (v := (Value.bool (!r16))) (w' := w8) (wantG rfl rfl rfl hc14) rfl rfl (x_not rfl rfl) ?_
          refine wpR_val (v := (Value.bool (!r16))) (w' := w8) rfl rfl rfl (x_pickT (v := (Value.bool (!r16))) rfl rfl hc14 rfl) ?_
          refine wpR_nil ?_
          exact ⟨!r16, ⟨rfl, e0, e3, trivial⟩, h⟩
        · replace h := h.2 hc14
          refine wpR_pass (wantN rfl rfl rfl hc14) rfl rfl ?_
          refine wpR_pass (wantN rfl rfl rfl hc14) rfl rfl ?_
          refine wpR_pass (wantN rfl rfl rfl hc14) rfl rfl ?_
          refine wpR_pass (wantN rfl rfl rfl hc14) rfl rfl ?_
          refine wpR_pass (wantN rfl rfl rfl hc14) rfl rfl ?_
          refine wpR_val (v := (Value.bool false)) (w' := w6) rfl rfl rfl (x_pickF (v := (Value.bool false)) rfl rfl hc14 rfl) ?_
          refine wpR_nil ?_
          exact ⟨false, ⟨rfl, e0, e3, trivial⟩, h⟩
      clear h
      rintro c17 ρ w9 ⟨e35, e0, e3, -⟩ h
      replace h := hk c17 w9 h
      clear hk
      refine wpR_nil ?_
      refine wpC_cond (b := c17) e35 (fun hc18 => ?_) (fun hc18 => ?_)
      · replace h := h.1 hc18
        refine wpC_seq ?_
        refine wpC_region ?_
        refine wpR_val (v := (Value.bool false)) (w' := w9) rfl rfl rfl (x_assign (v := (Value.bool false)) rfl rfl) ?_
        refine wpR_nil ?_
        refine wpC_ret ?_
        exact ⟨.inl rfl, fun a ha => ⟨_, results_rep1 rfl ha rfl, false, rfl, h⟩⟩
      · replace h := h.2 hc18
        refine wpC_skip ?_
        refine wpC_region ?_
        refine wpR_val (v := (Value.int .i64 l9)) (w' := w9) rfl rfl rfl (x_move (v := (Value.int .i64 l9)) rfl e3) ?_
        refine wpR_val (v := (Value.int .i64 (IntKind.i64.wrap (l9 + 1)))) (w' := w9) rfl rfl rfl (x_add rfl rfl rfl) ?_
        refine wpR_val (v := (Value.int .i64 (IntKind.i64.wrap (l9 + 1)))) (w' := w9) rfl rfl rfl (x_assign (v := (Value.int .i64 (IntKind.i64.wrap (l9 + 1)))) rfl rfl) ?_
        refine wpR_nil ?_
        exact ⟨IntKind.i64.wrap (l9 + 1), ⟨rfl, e0, trivial⟩, h⟩
    · replace h := h.2 hc10
      refine wpC_exit ?_
      refine wpC_seq ?_
      refine wpC_cut (fun ρ => True) trivial ?_
      rintro ρ -
      refine wpC_region ?_
      refine wpR_val (v := (Value.bool true)) (w' := w4) rfl rfl rfl (x_assign (v := (Value.bool true)) rfl rfl) ?_
      refine wpR_nil ?_
      refine wpC_ret ?_
      exact ⟨.inl rfl, fun a ha => ⟨_, results_rep1 rfl ha rfl, true, rfl, h⟩⟩

/-- slices.IndexFunc[[]string,string] -/
def F41 (p0 : Sl) (p1 : Value) (w0 : World) (K : Int → World → Prop) : Prop :=
  lp (fun (next1 : Int → World → Prop) l1 w1 =>
    cnd (decide (l1 < (p0.len : Int)))
      (
      ix p0 l1 1 fun p3 =>
      ld Value.string p3 w1 fun x4 =>
      cv Try.prog p1 [(Value.string x4)] (fun (r : Bool) => (Value.bool r)) w1 fun r5 w2 =>
      cnd (r5)
        (
        K l1 w2
        )
        (
        next1 (IntKind.i64.wrap (l1 + 1)) w2
        )
      )
      (
      K (-1) w1
      )
  ) 0 w0
set_option maxRecDepth 100000 in
theorem D41 (p0 : Sl) (p1 : Value) (w0 : World) (K : Int → World → Prop) (h : F41 p0 p1 w0 K) : callC Try.prog 41 #[(Sl.v p0), p1] (fun (r : Int) => (Value.int .i64 r)) w0 K := by
  unfold F41 at h
  refine calls_of_wpC Try.func41 rfl 19 rfl (by simp) ?_
  intro ρ hρ
  have e0 : ρ 0 = (Sl.v p0) := hρ 0
  have e1 : ρ 1 = p1 := hρ 1
  clear hρ
  refine wpC_seq ?_
  refine wpC_region ?_
  refine wpR_val (v := (Value.int .i64 0)) (w' := w0) rfl rfl rfl (x_assign (v := (Value.int .i64 0)) rfl rfl) ?_
  refine wpR_nil ?_
  refine wpC_seq ?_
  refine wpC_seq ?_
  refine wpC_cut (fun ρ => ρ 0 = (Sl.v p0) ∧ ρ 1 = p1 ∧ True) ⟨e0, e1, trivial⟩ ?_
  rintro ρ ⟨e0, e1, -⟩
  refine wpC_region ?_
  refine wpR_val (v := (Sl.v p0)) (w' := w0) rfl rfl rfl (x_move (v := (Sl.v p0)) rfl e0) ?_
  refine wpR_val (v := (Value.int .i64 (p0.len : Int))) (w' := w0) rfl rfl rfl (x_lenS (s := p0) rfl rfl isSliceT_22) ?_
  refine wpR_val (v := (Value.int .i64 0)) (w' := w0) rfl rfl rfl (x_move (v := (Value.int .i64 0)) rfl rfl) ?_
  refine wpR_nil ?_
  refine wpC_block ?_
  obtain ⟨I1, μ1, hI1, hr1⟩ := h
  refine wpC_loop (fun (x : Int) ρ => ρ 8 = (Value.int .i64 x) ∧ ρ 0 = (Sl.v p0) ∧ ρ 1 = p1 ∧ ρ 7 = (Value.int .i64 (p0.len : Int)) ∧ True) I1 μ1 0 ⟨rfl, e0, e1, rfl, trivial⟩ hI1 ?_
  rintro l1 ρ w1 ⟨e8, e0, e1, e7, -⟩ h
  replace h := hr1 l1 w1 h
  clear hr1 hI1
  refine wpC_seq ?_
  refine wpC_region ?_
  refine wpR_val (v := (Value.bool (decide (l1 < (p0.len : Int))))) (w' := w1) rfl rfl rfl (x_lss rfl e8 e7) ?_
  refine wpR_nil ?_
  refine wpC_seq ?_
  refine wpC_cond (b := decide (l1 < (p0.len : Int))) rfl (fun hc2 => ?_) (fun hc2 => ?_)
  · replace h := h.1 hc2
    refine wpC_skip ?_
    refine wpC_seq ?_
    refine wpC_block ?_
    refine wpC_seq ?_
    refine wpC_cut (fun ρ => ρ 0 = (Sl.v p0) ∧ ρ 1 = p1 ∧ ρ 7 = (Value.int .i64 (p0.len : Int)) ∧ ρ 8 = (Value.int .i64 l1) ∧ True) ⟨e0, e1, e7, e8, trivial⟩ ?_
    rintro ρ ⟨e0, e1, e7, e8, -⟩
    refine wpC_region ?_
    refine wpR_val (v := (Value.int .i64 l1)) (w' := w1) rfl rfl rfl (x_move (v := (Value.int .i64 l1)) rfl e8) ?_
    refine wpR_val (v := (Value.int .i64 l1)) (w' := w1) rfl rfl rfl (x_assign (v := (Value.int .i64 l1)) rfl rfl) ?_
    refine wpR_nil ?_
    refine wpC_seq ?_
    refine wpC_cut (fun ρ => ρ 0 = (Sl.v p0) ∧ ρ 1 = p1 ∧ ρ 5 = (Value.int .i64 l1) ∧ ρ 7 = (Value.int .i64 (p0.len : Int)) ∧ ρ 8 = (Value.int .i64 l1) ∧ True) ⟨e0, e1, rfl, e7, e8, trivial⟩ ?_
    rintro ρ ⟨e0, e1, e5, e7, e8, -⟩
    refine wpC_region ?_
    refine wpR_val (v := p1) (w' := w1) rfl rfl rfl (x_move (v := p1) rfl e1) ?_
    refine wpR_val (v := (Sl.v p0)) (w' := w1) rfl rfl rfl (x_move (v := (Sl.v p0)) rfl e0) ?_
    refine wpR_val (v := (Value.int .i64 l1)) (w' := w1) rfl rfl rfl (x_move (v := (Value.int .i64 l1)) rfl e5) ?_
    obtain ⟨q3, z3, r3, h⟩ := h
    generalize hp3 : z3.add ((l1 : Int).toNat * 1) = p3 at h
    refine wpR_val (v := (Value.pointer (some p3))) (w' := w1) rfl rfl rfl ((x_indexAddr (s := p0) rfl rfl rfl ES_22 q3 r3).trans (by rw [hp3])) ?_
    obtain ⟨x4, q4, h⟩ := h
    refine wpR_val (v := (Value.string x4)) (w' := w1) rfl rfl rfl (x_load1 rfl rfl SH_9 q4) ?_
    obtain ⟨f5, fi5, ca5, fn5, qv5, qf5, qn5, qb5, h⟩ := h
    refine wpR_enter rfl rfl rfl (x_callv (vs := [(Value.string x4)]) rfl ((show _ = p1 from rfl).trans qv5) (mapl_cons rfl mapl_nil) qf5 qn5 qb5) (Calls.mono h ?_)
    rintro _ w2 ⟨r5, rfl, h⟩
    refine ⟨_, rfl, ?_⟩
    refine wpR_nil ?_
    refine wpC_cond (b := r5) rfl (fun hc6 => ?_) (fun hc6 => ?_)
    · replace h := h.1 hc6
      refine wpC_seq ?_
      refine wpC_cut (fun ρ => ρ 5 = (Value.int .i64 l1) ∧ True) ⟨e5, trivial⟩ ?_
      rintro ρ ⟨e5, -⟩
      refine wpC_region ?_
      refine wpR_val (v := (Value.int .i64 l1)) (w' := w2) rfl rfl rfl (x_move (v := (Value.int .i64 l1)) rfl e5) ?_
      refine wpR_val (v := (Value.int .i64 l1)) (w' := w2) rfl rfl rfl (x_assign (v := (Value.int .i64 l1)) rfl rfl) ?_
      refine wpR_nil ?_
      refine wpC_ret ?_
      exact ⟨.inl rfl, fun a ha => ⟨_, results_rep1 rfl ha rfl, l1, rfl, h⟩⟩
    · replace h := h.2 hc6
      refine wpC_skip ?_
      refine wpC_cut (fun ρ => ρ 0 = (Sl.v p0) ∧ ρ 1 = p1 ∧ ρ 7 = (Value.int .i64 (p0.len : Int)) ∧ ρ 8 = (Value.int .i64 l1) ∧ True) ⟨e0, e1, e7, e8, trivial⟩ ?_
      rintro ρ ⟨e0, e1, e7, e8, -⟩
      refine wpC_region ?_
      refine wpR_val (v := (Value.int .i64 (IntKind.i64.wrap (l1 + 1)))) (w' := w2) rfl rfl rfl (x_add rfl e8 rfl) ?_
      refine wpR_val (v := (Value.int .i64 (IntKind.i64.wrap (l1 + 1)))) (w' := w2) rfl rfl rfl (x_move (v := (Value.int .i64 (IntKind.i64.wrap (l1 + 1)))) rfl rfl) ?_
      refine wpR_nil ?_
      exact ⟨IntKind.i64.wrap (l1 + 1), ⟨rfl, e0, e1, e7, trivial⟩, h⟩
  · replace h := h.2 hc2
    refine wpC_exit ?_
    refine wpC_seq ?_
    refine wpC_cut (fun ρ => True) trivial ?_
    rintro ρ -
    refine wpC_region ?_
    refine wpR_val (v := (Value.int .i64 (-1))) (w' := w1) rfl rfl rfl (x_assign (v := (Value.int .i64 (-1))) rfl rfl) ?_
    refine wpR_nil ?_
    refine wpC_ret ?_
    exact ⟨.inl rfl, fun a ha => ⟨_, results_rep1 rfl ha rfl, (-1), rfl, h⟩⟩

/-- linguaref13.number -/
def F42 (p0 : Bool) (w0 : World) (K : Int → World → Prop) : Prop :=
  cnd (p0)
    (
    K 1 w0
    )
    (
    K 0 w0
    )
set_option maxRecDepth 100000 in
theorem D42 (p0 : Bool) (w0 : World) (K : Int → World → Prop) (h : F42 p0 w0 K) : callC Try.prog 42 #[(Value.bool p0)] (fun (r : Int) => (Value.int .i64 r)) w0 K := by
  unfold F42 at h
  refine calls_of_wpC Try.func42 rfl 4 rfl (by simp) ?_
  intro ρ hρ
  have e0 : ρ 0 = (Value.bool p0) := hρ 0
  clear hρ
  refine wpC_seq ?_
  refine wpC_region ?_
  refine wpR_val (v := (Value.int .i64 0)) (w' := w0) rfl rfl rfl (x_assign (v := (Value.int .i64 0)) rfl rfl) ?_
  refine wpR_nil ?_
  refine wpC_seq ?_
  refine wpC_seq ?_
  refine wpC_cut (fun ρ => ρ 0 = (Value.bool p0) ∧ True) ⟨e0, trivial⟩ ?_
  rintro ρ ⟨e0, -⟩
  refine wpC_region ?_
  refine wpR_val (v := (Value.bool p0)) (w' := w0) rfl rfl rfl (x_move (v := (Value.bool p0)) rfl e0) ?_
  refine wpR_nil ?_
  refine wpC_cond (b := p0) rfl (fun hc1 => ?_) (fun hc1 => ?_)
  · replace h := h.1 hc1
    refine wpC_seq ?_
    refine wpC_cut (fun ρ => True) trivial ?_
    rintro ρ -
    refine wpC_region ?_
    refine wpR_val (v := (Value.int .i64 1)) (w' := w0) rfl rfl rfl (x_assign (v := (Value.int .i64 1)) rfl rfl) ?_
    refine wpR_nil ?_
    refine wpC_ret ?_
    exact ⟨.inl rfl, fun a ha => ⟨_, results_rep1 rfl ha rfl, 1, rfl, h⟩⟩
  · replace h := h.2 hc1
    refine wpC_skip ?_
    refine wpC_seq ?_
    refine wpC_cut (fun ρ => True) trivial ?_
    rintro ρ -
    refine wpC_region ?_
    refine wpR_val (v := (Value.int .i64 0)) (w' := w0) rfl rfl rfl (x_assign (v := (Value.int .i64 0)) rfl rfl) ?_
    refine wpR_nil ?_
    refine wpC_ret ?_
    exact ⟨.inl rfl, fun a ha => ⟨_, results_rep1 rfl ha rfl, 0, rfl, h⟩⟩

/-- lex.letter -/
def F43 (p0 : Int) (w0 : World) (K : Bool → World → Prop) : Prop :=
  K ((decide (97 ≤ p0)) && (decide (p0 ≤ 122))) w0
set_option maxRecDepth 100000 in
theorem D43 (p0 : Int) (w0 : World) (K : Bool → World → Prop) (h : F43 p0 w0 K) : callC Try.prog 43 #[(Value.int .u8 p0)] (fun (r : Bool) => (Value.bool r)) w0 K := by
  unfold F43 at h
  refine calls_of_wpC Try.func43 rfl 9 rfl (by simp) ?_
  intro ρ hρ
  have e0 : ρ 0 = (Value.int .u8 p0) := hρ 0
  clear hρ
  refine wpC_seq ?_
  refine wpC_region ?_
  refine wpR_val (v := (Value.bool false)) (w' := w0) rfl rfl rfl (x_assign (v := (Value.bool false)) rfl rfl) ?_
  refine wpR_nil ?_
  refine wpC_seq ?_
  refine wpC_cut (fun ρ => ρ 0 = (Value.int .u8 p0) ∧ True) ⟨e0, trivial⟩ ?_
  rintro ρ ⟨e0, -⟩
  refine wpC_region ?_
  refine wpR_val (v := (Value.int .u8 p0)) (w' := w0) rfl rfl rfl (x_move (v := (Value.int .u8 p0)) rfl e0) ?_
  refine wpR_val (v := (Value.bool (decide (97 ≤ p0)))) (w' := w0) rfl rfl rfl (x_geq rfl rfl rfl) ?_
  refine wpR_val (v := (Value.bool (decide (97 ≤ p0)))) (w' := w0) rfl rfl rfl (x_move (v := (Value.bool (decide (97 ≤ p0)))) rfl rfl) ?_
  refine wpR_joinJ 3 (fun (_ : Unit) ρ => ρ 8 = Value.bool ((decide (97 ≤ p0)) && (decide (p0 ≤ 122))) ∧ True) (fun _ w => w0 = w) ?_ ?_
  · clear h
    rcases Bool.eq_false_or_eq_true (decide (97 ≤ p0)) with hc2 | hc2
    · skip
      refine wpR_val (v := (Value.int .u8 p0)) (w' := w0) (wantG rfl rfl rfl hc2) rfl rfl (x_move (v := (Value.int .u8 p0)) rfl e0) ?_
      refine wpR_val (v := (Value.bool (decide (p0 ≤ 122)))) (w' := w0) (wantG rfl rfl rfl hc2) rfl rfl (x_leq rfl rfl rfl) ?_
      refine wpR_val (v := (Value.bool (decide (p0 ≤ 122)))) (w' := w0) rfl rfl rfl (x_pickT (v := (Value.bool (decide (p0 ≤ 122)))) rfl rfl hc2 rfl) ?_
      refine wpR_nil ?_
      exact ⟨(), ⟨(by rw [hc2]; rfl), trivial⟩, rfl⟩
    · skip
      refine wpR_pass (wantN rfl rfl rfl hc2) rfl rfl ?_
      refine wpR_pass (wantN rfl rfl rfl hc2) rfl rfl ?_
      refine wpR_val (v := (Value.bool false)) (w' := w0) rfl rfl rfl (x_pickF (v := (Value.bool false)) rfl rfl hc2 rfl) ?_
      refine wpR_nil ?_
      exact ⟨(), ⟨(by rw [hc2]; rfl), trivial⟩, rfl⟩
  rintro _ ρ wj ⟨e8, -⟩ rfl
  refine wpR_val (v := (Value.bool ((decide (97 ≤ p0)) && (decide (p0 ≤ 122))))) (w' := w0) rfl rfl rfl (x_assign (v := (Value.bool ((decide (97 ≤ p0)) && (decide (p0 ≤ 122))))) rfl e8) ?_
  refine wpR_nil ?_
  refine wpC_ret ?_
  exact ⟨.inl rfl, fun a ha => ⟨_, results_rep1 rfl ha rfl, (decide (97 ≤ p0)) && (decide (p0 ≤ 122)), rfl, h⟩⟩

/-- lex.span -/
def F44 (p0 : ByteArray) (p1 : Value) (w0 : World) (K : Int → World → Prop) : Prop :=
  lp (fun (next1 : Int → World → Prop) l1 w1 =>
    jn (fun J2 => cnd (decide (l1 < (p0.size : Int)))
      (
      rn Try.prog (Instr.index 9 (Value.string p0) (Value.int .i64 l1)) (fun (r : Int) => (Value.int .u8 r)) w1 fun r4 w2 =>
      cv Try.prog p1 [(Value.int .u8 r4)] (fun (r : Bool) => (Value.bool r)) w2 fun r5 w3 =>
      J2 r5 w3
      )
      (
      J2 false w1
      ))
    fun c6 w4 =>
    cnd (c6)
      (
      next1 (IntKind.i64.wrap (l1 + 1)) w4
      )
      (
      K l1 w4
      )
  ) 0 w0
set_option maxRecDepth 100000 in
theorem D44 (p0 : ByteArray) (p1 : Value) (w0 : World) (K : Int → World → Prop) (h : F44 p0 p1 w0 K) : callC Try.prog 44 #[(Value.string p0), p1] (fun (r : Int) => (Value.int .i64 r)) w0 K := by
  unfold F44 at h
  refine calls_of_wpC Try.func44 rfl 20 rfl (by simp) ?_
  intro ρ hρ
  have e0 : ρ 0 = (Value.string p0) := hρ 0
  have e1 : ρ 1 = p1 := hρ 1
  clear hρ
  refine wpC_seq ?_
  refine wpC_region ?_
  refine wpR_val (v := (Value.int .i64 0)) (w' := w0) rfl rfl rfl (x_assign (v := (Value.int .i64 0)) rfl rfl) ?_
  refine wpR_nil ?_
  refine wpC_seq ?_
  refine wpC_cut (fun ρ => ρ 0 = (Value.string p0) ∧ ρ 1 = p1 ∧ True) ⟨e0, e1, trivial⟩ ?_
  rintro ρ ⟨e0, e1, -⟩
  refine wpC_region ?_
  refine wpR_val (v := (Value.int .i64 0)) (w' := w0) rfl rfl rfl (x_assign (v := (Value.int .i64 0)) rfl rfl) ?_
  refine wpR_nil ?_
  refine wpC_seq ?_
  refine wpC_block ?_
  obtain ⟨I1, μ1, hI1, hr1⟩ := h
  refine wpC_loop (fun (x : Int) ρ => ρ 5 = (Value.int .i64 x) ∧ ρ 0 = (Value.string p0) ∧ ρ 1 = p1 ∧ True) I1 μ1 0 ⟨rfl, e0, e1, trivial⟩ hI1 ?_
  rintro l1 ρ w1 ⟨e5, e0, e1, -⟩ h
  replace h := hr1 l1 w1 h
  clear hr1 hI1
  refine wpC_seq ?_
  refine wpC_seq ?_
  refine wpC_region ?_
  refine wpR_val (v := (Value.int .i64 l1)) (w' := w1) rfl rfl rfl (x_move (v := (Value.int .i64 l1)) rfl e5) ?_
  refine wpR_val (v := (Value.string p0)) (w' := w1) rfl rfl rfl (x_move (v := (Value.string p0)) rfl e0) ?_
  refine wpR_val (v := (Value.int .i64 (p0.size : Int))) (w' := w1) rfl rfl rfl (x_lenStr rfl rfl isStrT_9) ?_
  refine wpR_val (v := (Value.bool (decide (l1 < (p0.size : Int))))) (w' := w1) rfl rfl rfl (x_lss rfl rfl rfl) ?_
  refine wpR_val (v := (Value.bool (decide (l1 < (p0.size : Int))))) (w' := w1) rfl rfl rfl (x_move (v := (Value.bool (decide (l1 < (p0.size : Int))))) rfl rfl) ?_
  obtain ⟨J2, h, hk⟩ := h
  refine wpR_joinJ 6 (fun x ρ => ρ 16 = Value.bool x ∧ ρ 0 = (Value.string p0) ∧ ρ 1 = p1 ∧ ρ 5 = (Value.int .i64 l1) ∧ True) (J2) ?_ ?_
  · clear hk
    rcases Bool.eq_false_or_eq_true (decide (l1 < (p0.size : Int))) with hc3 | hc3
    · replace h := h.1 hc3
      refine wpR_val (v := p1) (w' := w1) (wantG rfl rfl rfl hc3) rfl rfl (x_move (v := p1) rfl e1) ?_
      refine wpR_val (v := (Value.string p0)) (w' := w1) (wantG rfl rfl rfl hc3) rfl rfl (x_move (v := (Value.string p0)) rfl e0) ?_
      refine wpR_val (v := (Value.int .i64 l1)) (w' := w1) (wantG rfl rfl rfl hc3) rfl rfl (x_move (v := (Value.int .i64 l1)) rfl e5) ?_
      obtain ⟨r4, w2, q4, h⟩ := h
      refine wpR_val (v := (Value.int .u8 r4)) (w' := w2) (wantG rfl rfl rfl hc3) rfl rfl (x_index rfl rfl rfl q4) ?_
      obtain ⟨f5, fi5, ca5, fn5, qv5, qf5, qn5, qb5, h⟩ := h
      refine wpR_enter (wantG rfl rfl rfl hc3) rfl rfl (x_callv (vs := [(Value.int .u8 r4)]) rfl ((show _ = p1 from rfl).trans qv5) (mapl_cons rfl mapl_nil) qf5 qn5 qb5) (Calls.mono h ?_)
      rintro _ w3 ⟨r5, rfl, h⟩
      refine ⟨_, rfl, ?_⟩
      refine wpR_val (v := (Value.bool r5)) (w' := w3) rfl rfl rfl (x_pickT (v := (Value.bool r5)) rfl rfl hc3 rfl) ?_
      refine wpR_nil ?_
      exact ⟨r5, ⟨rfl, e0, e1, e5, trivial⟩, h⟩
    · replace h := h.2 hc3
      refine wpR_pass (wantN rfl rfl rfl hc3) rfl rfl ?_
      refine wpR_pass (wantN rfl rfl rfl hc3) rfl rfl ?_
      refine wpR_pass (wantN rfl rfl rfl hc3) rfl rfl ?_
      refine wpR_pass (wantN rfl rfl rfl hc3) rfl rfl ?_
      refine wpR_pass (wantN rfl rfl rfl hc3) rfl rfl ?_
      refine wpR_val (v := (Value.bool false)) (w' := w1) rfl rfl rfl (x_pickF (v := (Value.bool false)) rfl rfl hc3 rfl) ?_
      refine wpR_nil ?_
      exact ⟨false, ⟨rfl, e0, e1, e5, trivial⟩, h⟩
  clear h
  rintro c6 ρ w4 ⟨e16, e0, e1, e5, -⟩ h
  replace h := hk c6 w4 h
  clear hk
  refine wpR_nil ?_
  refine wpC_cond (b := c6) e16 (fun hc7 => ?_) (fun hc7 => ?_)
  · replace h := h.1 hc7
    refine wpC_skip ?_
    refine wpC_block ?_
    refine wpC_region ?_
    refine wpR_val (v := (Value.int .i64 l1)) (w' := w4) rfl rfl rfl (x_move (v := (Value.int .i64 l1)) rfl e5) ?_
    refine wpR_val (v := (Value.int .i64 (IntKind.i64.wrap (l1 + 1)))) (w' := w4) rfl rfl rfl (x_add rfl rfl rfl) ?_
    refine wpR_val (v := (Value.int .i64 (IntKind.i64.wrap (l1 + 1)))) (w' := w4) rfl rfl rfl (x_assign (v := (Value.int .i64 (IntKind.i64.wrap (l1 + 1)))) rfl rfl) ?_
    refine wpR_nil ?_
    exact ⟨IntKind.i64.wrap (l1 + 1), ⟨rfl, e0, e1, trivial⟩, h⟩
  · replace h := h.2 hc7
    refine wpC_exit ?_
    refine wpC_seq ?_
    refine wpC_region ?_
    refine wpR_val (v := (Value.int .i64 l1)) (w' := w4) rfl rfl rfl (x_move (v := (Value.int .i64 l1)) rfl e5) ?_
    refine wpR_val (v := (Value.int .i64 l1)) (w' := w4) rfl rfl rfl (x_assign (v := (Value.int .i64 l1)) rfl rfl) ?_
    refine wpR_nil ?_
    refine wpC_ret ?_
    exact ⟨.inl rfl, fun a ha => ⟨_, results_rep1 rfl ha rfl, l1, rfl, h⟩⟩

/-- lex.Word$1 -/
def F45 (p0 : Int) (w0 : World) (K : Bool → World → Prop) : Prop :=
  callC Try.prog 43 #[(Value.int .u8 p0)] (fun (r : Bool) => (Value.bool r)) w0 fun r1 w1 =>
  jn (fun J2 => cnd (r1)
    (
    J2 true w1
    )
    (
    callC Try.prog 46 #[(Value.int .u8 p0)] (fun (r : Bool) => (Value.bool r)) w1 fun r4 w2 =>
    J2 r4 w2
    ))
  fun c5 w3 =>
  K c5 w3
set_option maxRecDepth 100000 in
theorem D45 (p0 : Int) (w0 : World) (K : Bool → World → Prop) (h : F45 p0 w0 K) : callC Try.prog 45 #[(Value.int .u8 p0)] (fun (r : Bool) => (Value.bool r)) w0 K := by
  unfold F45 at h
  refine calls_of_wpC Try.func45 rfl 9 rfl (by simp) ?_
  intro ρ hρ
  have e0 : ρ 0 = (Value.int .u8 p0) := hρ 0
  clear hρ
  refine wpC_seq ?_
  refine wpC_region ?_
  refine wpR_val (v := (Value.bool false)) (w' := w0) rfl rfl rfl (x_assign (v := (Value.bool false)) rfl rfl) ?_
  refine wpR_nil ?_
  refine wpC_seq ?_
  refine wpC_cut (fun ρ => ρ 0 = (Value.int .u8 p0) ∧ True) ⟨e0, trivial⟩ ?_
  rintro ρ ⟨e0, -⟩
  refine wpC_region ?_
  refine wpR_val (v := (Value.int .u8 p0)) (w' := w0) rfl rfl rfl (x_move (v := (Value.int .u8 p0)) rfl e0) ?_
  refine wpR_enter rfl rfl rfl (x_call (vs := [(Value.int .u8 p0)]) rfl rfl (mapl_cons rfl mapl_nil) Try.func43 NN_43 NB_43) (Calls.mono h ?_)
  rintro _ w1 ⟨r1, rfl, h⟩
  refine ⟨_, rfl, ?_⟩
  refine wpR_val (v := (Value.bool r1)) (w' := w1) rfl rfl rfl (x_move (v := (Value.bool r1)) rfl rfl) ?_
  obtain ⟨J2, h, hk⟩ := h
  refine wpR_joinJ 3 (fun x ρ => ρ 8 = Value.bool x ∧ True) (J2) ?_ ?_
  · clear hk
    rcases Bool.eq_false_or_eq_true (r1) with hc3 | hc3
    · replace h := h.1 hc3
      refine wpR_pass (wantN rfl rfl rfl hc3) rfl rfl ?_
      refine wpR_pass (wantN rfl rfl rfl hc3) rfl rfl ?_
      refine wpR_val (v := (Value.bool true)) (w' := w1) rfl rfl rfl (x_pickT (v := (Value.bool true)) rfl rfl hc3 rfl) ?_
      refine wpR_nil ?_
      exact ⟨true, ⟨rfl, trivial⟩, h⟩
    · replace h := h.2 hc3
      refine wpR_val (v := (Value.int .u8 p0)) (w' := w1) (wantG rfl rfl rfl hc3) rfl rfl (x_move (v := (Value.int .u8 p0)) rfl e0) ?_
      refine wpR_enter (wantG rfl rfl rfl hc3) rfl rfl (x_call (vs := [(Value.int .u8 p0)]) rfl rfl (mapl_cons rfl mapl_nil) Try.func46 NN_46 NB_46) (Calls.mono h ?_)
      rintro _ w2 ⟨r4, rfl, h⟩
      refine ⟨_, rfl, ?_⟩
      refine wpR_val (v := (Value.bool r4)) (w' := w2) rfl rfl rfl (x_pickF (v := (Value.bool r4)) rfl rfl hc3 rfl) ?_
      refine wpR_nil ?_
      exact ⟨r4, ⟨rfl, trivial⟩, h⟩
  clear h
  rintro c5 ρ w3 ⟨e8, -⟩ h
  replace h := hk c5 w3 h
  clear hk
  refine wpR_val (v := (Value.bool c5)) (w' := w3) rfl rfl rfl (x_assign (v := (Value.bool c5)) rfl e8) ?_
  refine wpR_nil ?_
  refine wpC_ret ?_
  exact ⟨.inl rfl, fun a ha => ⟨_, results_rep1 rfl ha rfl, c5, rfl, h⟩⟩

/-- lex.digit -/
def F46 (p0 : Int) (w0 : World) (K : Bool → World → Prop) : Prop :=
  K ((decide (48 ≤ p0)) && (decide (p0 ≤ 57))) w0
set_option maxRecDepth 100000 in
theorem D46 (p0 : Int) (w0 : World) (K : Bool → World → Prop) (h : F46 p0 w0 K) : callC Try.prog 46 #[(Value.int .u8 p0)] (fun (r : Bool) => (Value.bool r)) w0 K := by
  unfold F46 at h
  refine calls_of_wpC Try.func46 rfl 9 rfl (by simp) ?_
  intro ρ hρ
  have e0 : ρ 0 = (Value.int .u8 p0) := hρ 0
  clear hρ
  refine wpC_seq ?_
  refine wpC_region ?_
  refine wpR_val (v := (Value.bool false)) (w' := w0) rfl rfl rfl (x_assign (v := (Value.bool false)) rfl rfl) ?_
  refine wpR_nil ?_
  refine wpC_seq ?_
  refine wpC_cut (fun ρ => ρ 0 = (Value.int .u8 p0) ∧ True) ⟨e0, trivial⟩ ?_
  rintro ρ ⟨e0, -⟩
  refine wpC_region ?_
  refine wpR_val (v := (Value.int .u8 p0)) (w' := w0) rfl rfl rfl (x_move (v := (Value.int .u8 p0)) rfl e0) ?_
  refine wpR_val (v := (Value.bool (decide (48 ≤ p0)))) (w' := w0) rfl rfl rfl (x_geq rfl rfl rfl) ?_
  refine wpR_val (v := (Value.bool (decide (48 ≤ p0)))) (w' := w0) rfl rfl rfl (x_move (v := (Value.bool (decide (48 ≤ p0)))) rfl rfl) ?_
  refine wpR_joinJ 3 (fun (_ : Unit) ρ => ρ 8 = Value.bool ((decide (48 ≤ p0)) && (decide (p0 ≤ 57))) ∧ True) (fun _ w => w0 = w) ?_ ?_
  · clear h
    rcases Bool.eq_false_or_eq_true (decide (48 ≤ p0)) with hc2 | hc2
    · skip
      refine wpR_val (v := (Value.int .u8 p0)) (w' := w0) (wantG rfl rfl rfl hc2) rfl rfl (x_move (v := (Value.int .u8 p0)) rfl e0) ?_
      refine wpR_val (v := (Value.bool (decide (p0 ≤ 57)))) (w' := w0) (wantG rfl rfl rfl hc2) rfl rfl (x_leq rfl rfl rfl) ?_
      refine wpR_val (v := (Value.bool (decide (p0 ≤ 57)))) (w' := w0) rfl rfl rfl (x_pickT (v := (Value.bool (decide (p0 ≤ 57)))) rfl rfl hc2 rfl) ?_
      refine wpR_nil ?_
      exact ⟨(), ⟨(by rw [hc2]; rfl), trivial⟩, rfl⟩
    · skip
      refine wpR_pass (wantN rfl rfl rfl hc2) rfl rfl ?_
      refine wpR_pass (wantN rfl rfl rfl hc2) rfl rfl ?_
      refine wpR_val (v := (Value.bool false)) (w' := w0) rfl rfl rfl (x_pickF (v := (Value.bool false)) rfl rfl hc2 rfl) ?_
      refine wpR_nil ?_
      exact ⟨(), ⟨(by rw [hc2]; rfl), trivial⟩, rfl⟩
  rintro _ ρ wj ⟨e8, -⟩ rfl
  refine wpR_val (v := (Value.bool ((decide (48 ≤ p0)) && (decide (p0 ≤ 57))))) (w' := w0) rfl rfl rfl (x_assign (v := (Value.bool ((decide (48 ≤ p0)) && (decide (p0 ≤ 57))))) rfl e8) ?_
  refine wpR_nil ?_
  refine wpC_ret ?_
  exact ⟨.inl rfl, fun a ha => ⟨_, results_rep1 rfl ha rfl, (decide (48 ≤ p0)) && (decide (p0 ≤ 57)), rfl, h⟩⟩

/-- linguaref11.letter -/
def F47 (p0 : Int) (w0 : World) (K : Bool → World → Prop) : Prop :=
  K ((decide (97 ≤ p0)) && (decide (p0 ≤ 122))) w0
set_option maxRecDepth 100000 in
theorem D47 (p0 : Int) (w0 : World) (K : Bool → World → Prop) (h : F47 p0 w0 K) : callC Try.prog 47 #[(Value.int .u8 p0)] (fun (r : Bool) => (Value.bool r)) w0 K := by
  unfold F47 at h
  refine calls_of_wpC Try.func47 rfl 9 rfl (by simp) ?_
  intro ρ hρ
  have e0 : ρ 0 = (Value.int .u8 p0) := hρ 0
  clear hρ
  refine wpC_seq ?_
  refine wpC_region ?_
  refine wpR_val (v := (Value.bool false)) (w' := w0) rfl rfl rfl (x_assign (v := (Value.bool false)) rfl rfl) ?_
  refine wpR_nil ?_
  refine wpC_seq ?_
  refine wpC_cut (fun ρ => ρ 0 = (Value.int .u8 p0) ∧ True) ⟨e0, trivial⟩ ?_
  rintro ρ ⟨e0, -⟩
  refine wpC_region ?_
  refine wpR_val (v := (Value.int .u8 p0)) (w' := w0) rfl rfl rfl (x_move (v := (Value.int .u8 p0)) rfl e0) ?_
  refine wpR_val (v := (Value.bool (decide (97 ≤ p0)))) (w' := w0) rfl rfl rfl (x_geq rfl rfl rfl) ?_
  refine wpR_val (v := (Value.bool (decide (97 ≤ p0)))) (w' := w0) rfl rfl rfl (x_move (v := (Value.bool (decide (97 ≤ p0)))) rfl rfl) ?_
  refine wpR_joinJ 3 (fun (_ : Unit) ρ => ρ 8 = Value.bool ((decide (97 ≤ p0)) && (decide (p0 ≤ 122))) ∧ True) (fun _ w => w0 = w) ?_ ?_
  · clear h
    rcases Bool.eq_false_or_eq_true (decide (97 ≤ p0)) with hc2 | hc2
    · skip
      refine wpR_val (v := (Value.int .u8 p0)) (w' := w0) (wantG rfl rfl rfl hc2) rfl rfl (x_move (v := (Value.int .u8 p0)) rfl e0) ?_
      refine wpR_val (v := (Value.bool (decide (p0 ≤ 122)))) (w' := w0) (wantG rfl rfl rfl hc2) rfl rfl (x_leq rfl rfl rfl) ?_
      refine wpR_val (v := (Value.bool (decide (p0 ≤ 122)))) (w' := w0) rfl rfl rfl (x_pickT (v := (Value.bool (decide (p0 ≤ 122)))) rfl rfl hc2 rfl) ?_
      refine wpR_nil ?_
      exact ⟨(), ⟨(by rw [hc2]; rfl), trivial⟩, rfl⟩
    · skip
      refine wpR_pass (wantN rfl rfl rfl hc2) rfl rfl ?_
      refine wpR_pass (wantN rfl rfl rfl hc2) rfl rfl ?_
      refine wpR_val (v := (Value.bool false)) (w' := w0) rfl rfl rfl (x_pickF (v := (Value.bool false)) rfl rfl hc2 rfl) ?_
      refine wpR_nil ?_
      exact ⟨(), ⟨(by rw [hc2]; rfl), trivial⟩, rfl⟩
  rintro _ ρ wj ⟨e8, -⟩ rfl
  refine wpR_val (v := (Value.bool ((decide (97 ≤ p0)) && (decide (p0 ≤ 122))))) (w' := w0) rfl rfl rfl (x_assign (v := (Value.bool ((decide (97 ≤ p0)) && (decide (p0 ≤ 122))))) rfl e8) ?_
  refine wpR_nil ?_
  refine wpC_ret ?_
  exact ⟨.inl rfl, fun a ha => ⟨_, results_rep1 rfl ha rfl, (decide (97 ≤ p0)) && (decide (p0 ≤ 122)), rfl, h⟩⟩

/-- linguaref11.digit -/
def F48 (p0 : Int) (w0 : World) (K : Bool → World → Prop) : Prop :=
  K ((decide (48 ≤ p0)) && (decide (p0 ≤ 57))) w0
set_option maxRecDepth 100000 in
theorem D48 (p0 : Int) (w0 : World) (K : Bool → World → Prop) (h : F48 p0 w0 K) : callC Try.prog 48 #[(Value.int .u8 p0)] (fun (r : Bool) => (Value.bool r)) w0 K := by
  unfold F48 at h
  refine calls_of_wpC Try.func48 rfl 9 rfl (by simp) ?_
  intro ρ hρ
  have e0 : ρ 0 = (Value.int .u8 p0) := hρ 0
  clear hρ
  refine wpC_seq ?_
  refine wpC_region ?_
  refine wpR_val (v := (Value.bool false)) (w' := w0) rfl rfl rfl (x_assign (v := (Value.bool false)) rfl rfl) ?_
  refine wpR_nil ?_
  refine wpC_seq ?_
  refine wpC_cut (fun ρ => ρ 0 = (Value.int .u8 p0) ∧ True) ⟨e0, trivial⟩ ?_
  rintro ρ ⟨e0, -⟩
  refine wpC_region ?_
  refine wpR_val (v := (Value.int .u8 p0)) (w' := w0) rfl rfl rfl (x_move (v := (Value.int .u8 p0)) rfl e0) ?_
  refine wpR_val (v := (Value.bool (decide (48 ≤ p0)))) (w' := w0) rfl rfl rfl (x_geq rfl rfl rfl) ?_
  refine wpR_val (v := (Value.bool (decide (48 ≤ p0)))) (w' := w0) rfl rfl rfl (x_move (v := (Value.bool (decide (48 ≤ p0)))) rfl rfl) ?_
  refine wpR_joinJ 3 (fun (_ : Unit) ρ => ρ 8 = Value.bool ((decide (48 ≤ p0)) && (decide (p0 ≤ 57))) ∧ True) (fun _ w => w0 = w) ?_ ?_
  · clear h
    rcases Bool.eq_false_or_eq_true (decide (48 ≤ p0)) with hc2 | hc2
    · skip
      refine wpR_val (v := (Value.int .u8 p0)) (w' := w0) (wantG rfl rfl rfl hc2) rfl rfl (x_move (v := (Value.int .u8 p0)) rfl e0) ?_
      refine wpR_val (v := (Value.bool (decide (p0 ≤ 57)))) (w' := w0) (wantG rfl rfl rfl hc2) rfl rfl (x_leq rfl rfl rfl) ?_
      refine wpR_val (v := (Value.bool (decide (p0 ≤ 57)))) (w' := w0) rfl rfl rfl (x_pickT (v := (Value.bool (decide (p0 ≤ 57)))) rfl rfl hc2 rfl) ?_
      refine wpR_nil ?_
      exact ⟨(), ⟨(by rw [hc2]; rfl), trivial⟩, rfl⟩
    · skip
      refine wpR_pass (wantN rfl rfl rfl hc2) rfl rfl ?_
      refine wpR_pass (wantN rfl rfl rfl hc2) rfl rfl ?_
      refine wpR_val (v := (Value.bool false)) (w' := w0) rfl rfl rfl (x_pickF (v := (Value.bool false)) rfl rfl hc2 rfl) ?_
      refine wpR_nil ?_
      exact ⟨(), ⟨(by rw [hc2]; rfl), trivial⟩, rfl⟩
  rintro _ ρ wj ⟨e8, -⟩ rfl
  refine wpR_val (v := (Value.bool ((decide (48 ≤ p0)) && (decide (p0 ≤ 57))))) (w' := w0) rfl rfl rfl (x_assign (v := (Value.bool ((decide (48 ≤ p0)) && (decide (p0 ≤ 57))))) rfl e8) ?_
  refine wpR_nil ?_
  refine wpC_ret ?_
  exact ⟨.inl rfl, fun a ha => ⟨_, results_rep1 rfl ha rfl, (decide (48 ≤ p0)) && (decide (p0 ≤ 57)), rfl, h⟩⟩


end Go.Proofs.Ytadlnbdelkbboaa
