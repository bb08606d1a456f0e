import Derived.Test.YtgbhghoppjfofaaGreatRows
import Derived.Test.YtgbhghoppjfofaaGreatFs1
import Derived.Test.YtgbhghoppjfofaaGreatDecRaw
namespace Go.Proofs.YtgbhghoppjfofaaGreat
open Go.Dec
set_option maxHeartbeats 400000
set_option maxRecDepth 100000

/-- supply.Least -/
def F114 (p0_0 : ByteArray) (p0_1 : Int) (p0_2 : Int) (p0_3 : Int) (p0_4 : Bool) (p0_5 : Int) (p0_6 : Bool) (p0_7 : Bool) (p0_8 : Int) (p0_9 : Int) (p0_10 : Int) (p0_11 : Int) (p0_12 : Sl) (p0_13 : Int) (p0_14 : Int) (p0_15 : Int) (p0_16 : Int) (p0_17 : Bool) (p0_18 : Int) (p0_19 : Int) (p0_20 : Int) (p0_21 : Int) (p1 : Int) (w0 : World) (K : (Int × Int) → World → Prop) : Prop :=
  nw 65 (A64 p0_0 p0_1 p0_2 p0_3 p0_4 p0_5 p0_6 p0_7 p0_8 p0_9 p0_10 p0_11 p0_12 p0_13 p0_14 p0_15 p0_16 p0_17 p0_18 p0_19 p0_20 p0_21) w0 fun b9 w1 =>
  L64 (Addr.mk b9 0 none) w1 fun x10 x11 x12 x13 x14 x15 x16 x17 x18 x19 x20 x21 x22 x23 x24 x25 x26 x27 x28 x29 x30 x31 =>
  callC Tryz.prog 47 #[(V64 x10 x11 x12 x13 x14 x15 x16 x17 x18 x19 x20 x21 x22 x23 x24 x25 x26 x27 x28 x29 x30 x31)] (fun (r : Int) => (Value.int .i64 r)) w1 fun r32 w2 =>
  cnd (((!decide (r32 = 0)) || (decide (p1 < 0))) || (decide (1073741824 < p1)))
    (
    K (0, 1) w2
    )
    (
    jn (fun (J38 : Int → World → Prop) =>
      ld (Value.int .i64) ((Addr.mk b9 0 none).add 19) w2 fun x40 =>
      cnd (decide (0 < x40))
        (
        jn (fun (J43 : Int → World → Prop) => tk w2 fun w4 =>
          ld (Value.int .i64) ((Addr.mk b9 0 none).add 20) w4 fun x44 =>
          x44 ≠ 0 ∧
          ld (Value.int .i64) ((Addr.mk b9 0 none).add 19) w4 fun x46 =>
          ld (Value.int .i64) ((Addr.mk b9 0 none).add 20) w4 fun x47 =>
          x47 ≠ 0 ∧
          ld (Value.int .i64) ((Addr.mk b9 0 none).add 19) w4 fun x49 =>
          J43 (IntKind.i64.wrap ((IntKind.i64.wrap ((IntKind.i64.wrap (p1.tdiv x44)) * x46)) + (min (p1.tmod x47) x49))) w4
        )
        fun l50 w5 =>
        J38 l50 w5
        )
        (
        J38 0 w2
        )
    )
    fun l39 w3 =>
    L64 (Addr.mk b9 0 none) w3 fun x51 x52 x53 x54 x55 x56 x57 x58 x59 x60 x61 x62 x63 x64 x65 x66 x67 x68 x69 x70 x71 x72 =>
    callC Tryz.prog 136 #[(V64 x51 x52 x53 x54 x55 x56 x57 x58 x59 x60 x61 x62 x63 x64 x65 x66 x67 x68 x69 x70 x71 x72), (Value.int .i64 (IntKind.i64.wrap (p1 - l39)))] (fun (r : Int × Int) => (Value.tuple #[(Value.int .i64 r.1), (Value.int .i64 r.2)])) w3 fun r73 w6 =>
    K (r73.1, r73.2) w6
    )
set_option maxRecDepth 100000 in
theorem D114 (p0_0 : ByteArray) (p0_1 : Int) (p0_2 : Int) (p0_3 : Int) (p0_4 : Bool) (p0_5 : Int) (p0_6 : Bool) (p0_7 : Bool) (p0_8 : Int) (p0_9 : Int) (p0_10 : Int) (p0_11 : Int) (p0_12 : Sl) (p0_13 : Int) (p0_14 : Int) (p0_15 : Int) (p0_16 : Int) (p0_17 : Bool) (p0_18 : Int) (p0_19 : Int) (p0_20 : Int) (p0_21 : Int) (p1 : Int) (w0 : World) (K : (Int × Int) → World → Prop) (h : F114 p0_0 p0_1 p0_2 p0_3 p0_4 p0_5 p0_6 p0_7 p0_8 p0_9 p0_10 p0_11 p0_12 p0_13 p0_14 p0_15 p0_16 p0_17 p0_18 p0_19 p0_20 p0_21 p1 w0 K) : callC Tryz.prog 114 #[(V64 p0_0 p0_1 p0_2 p0_3 p0_4 p0_5 p0_6 p0_7 p0_8 p0_9 p0_10 p0_11 p0_12 p0_13 p0_14 p0_15 p0_16 p0_17 p0_18 p0_19 p0_20 p0_21), (Value.int .i64 p1)] (fun (r : Int × Int) => (Value.tuple #[(Value.int .i64 r.1), (Value.int .i64 r.2)])) w0 K := by
  unfold F114 at h
  refine calls_of_wpC Tryz.func114 rfl 43 rfl (by simp) ?_
  intro ρ hρ
  have e0 : ρ 0 = (V64 p0_0 p0_1 p0_2 p0_3 p0_4 p0_5 p0_6 p0_7 p0_8 p0_9 p0_10 p0_11 p0_12 p0_13 p0_14 p0_15 p0_16 p0_17 p0_18 p0_19 p0_20 p0_21) := hρ 0
  have e1 : ρ 1 = (Value.int .i64 p1) := hρ 1
  clear hρ
  refine wpC_seq ?_
  refine wpC_region ?_
  obtain ⟨b9, hb9⟩ : ∃ u, u = w0.heap.size := ⟨_, rfl⟩
  obtain ⟨w1, hw9⟩ : ∃ u, u = w0.alloc (.cells (A64 p0_0 p0_1 p0_2 p0_3 p0_4 p0_5 p0_6 p0_7 p0_8 p0_9 p0_10 p0_11 p0_12 p0_13 p0_14 p0_15 p0_16 p0_17 p0_18 p0_19 p0_20 p0_21) 65) := ⟨_, rfl⟩
  replace h := h b9 w1 hb9 hw9
  refine rv (Value.pointer (some (Addr.mk b9 0 none))) w1 rfl rfl rfl ((x_box (v := (V64 p0_0 p0_1 p0_2 p0_3 p0_4 p0_5 p0_6 p0_7 p0_8 p0_9 p0_10 p0_11 p0_12 p0_13 p0_14 p0_15 p0_16 p0_17 p0_18 p0_19 p0_20 p0_21)) rfl e0).trans (by rw [hb9, hw9]; rfl)) ?_
  refine rv (Value.int .i64 0) w1 rfl rfl rfl (x_assign rfl rfl) ?_
  refine rv (Value.int .i64 0) w1 rfl rfl rfl (x_assign rfl rfl) ?_
  refine wpR_nil ?_
  refine wpC_seq ?_
  refine wpC_seq ?_
  refine wpC_cut (fun ρ => ρ 1 = (Value.int .i64 p1) ∧ ρ 2 = (Value.pointer (some (Addr.mk b9 0 none))) ∧ True) ⟨e1, rfl, trivial⟩ ?_
  rintro ρ ⟨e1, e2, -⟩
  refine wpC_region ?_
  obtain ⟨x10, q10, x11, q11, x12, q12, x13, q13, x14, q14, x15, q15, x16, q16, x17, q17, x18, q18, x19, q19, x20, q20, x21, q21, x22, q22, x23, q23, x24, q24, x25, q25, x26, q26, x27, q27, x28, q28, x29, q29, x30, q30, x31, q31, h⟩ := h
  refine rv (V64 x10 x11 x12 x13 x14 x15 x16 x17 x18 x19 x20 x21 x22 x23 x24 x25 x26 x27 x28 x29 x30 x31) w1 rfl rfl rfl (x_loadN (S64 x10 x11 x12 x13 x14 x15 x16 x17 x18 x19 x20 x21 x22 x23 x24 x25 x26 x27 x28 x29 x30 x31) rfl e2 SH_65 (K64 ⟨q10, q11, q12, q13, q14, q15, q16, q17, q18, q19, q20, q21, q22, q23, q24, q25, q26, q27, q28, q29, q30, q31⟩)) ?_
  refine wpR_enter rfl rfl rfl (x_call (vs := [(V64 x10 x11 x12 x13 x14 x15 x16 x17 x18 x19 x20 x21 x22 x23 x24 x25 x26 x27 x28 x29 x30 x31)]) rfl rfl (mapl_cons rfl mapl_nil) Tryz.func47 NN_47 NB_47) (Calls.mono h ?_)
  rintro _ w2 ⟨r32, rfl, h⟩
  refine ⟨_, rfl, ?_⟩
  refine rv (Value.bool (!decide (r32 = 0))) w2 rfl rfl rfl (x_neq rfl rfl rfl) ?_
  refine rv (Value.bool (!decide (r32 = 0))) w2 rfl rfl rfl (x_move rfl rfl) ?_
  refine wpR_joinJ 3 (fun (_ : Unit) ρ => ρ 13 = Value.bool ((!decide (r32 = 0)) || (decide (p1 < 0))) ∧ ρ 1 = (Value.int .i64 p1) ∧ ρ 2 = (Value.pointer (some (Addr.mk b9 0 none))) ∧ True) (fun _ w => w2 = w) ?_ ?_
  · clear h
    rcases Bool.eq_false_or_eq_true (!decide (r32 = 0)) with hc34 | hc34
    · skip
      refine wpR_pass (wantN rfl rfl rfl hc34) rfl rfl ?_
      refine wpR_pass (wantN rfl rfl rfl hc34) rfl rfl ?_
      refine rv (Value.bool true) w2 rfl rfl rfl (x_pickT (v := (Value.bool true)) rfl rfl hc34 rfl) ?_
      refine wpR_nil ?_
      exact ⟨(), ⟨(by rw [hc34]; rfl), e1, e2, trivial⟩, rfl⟩
    · skip
      refine wpR_val (v := (Value.int .i64 p1)) (w' := w2) (wantG rfl rfl rfl hc34) rfl rfl (x_move rfl e1) ?_
      refine wpR_val (v := (Value.bool (decide (p1 < 0)))) (w' := w2) (wantG rfl rfl rfl hc34) rfl rfl (x_lss rfl rfl rfl) ?_
      refine rv (Value.bool (decide (p1 < 0))) w2 rfl rfl rfl (x_pickF (v := (Value.bool (decide (p1 < 0)))) rfl rfl hc34 rfl) ?_
      refine wpR_nil ?_
      exact ⟨(), ⟨(by rw [hc34]; rfl), e1, e2, trivial⟩, rfl⟩
  rintro _ ρ wj ⟨e13, e1, e2, -⟩ rfl
  refine rv (Value.bool ((!decide (r32 = 0)) || (decide (p1 < 0)))) w2 rfl rfl rfl (x_move rfl e13) ?_
  refine wpR_joinJ 3 (fun (_ : Unit) ρ => ρ 17 = Value.bool (((!decide (r32 = 0)) || (decide (p1 < 0))) || (decide (1073741824 < p1))) ∧ ρ 1 = (Value.int .i64 p1) ∧ ρ 2 = (Value.pointer (some (Addr.mk b9 0 none))) ∧ True) (fun _ w => w2 = w) ?_ ?_
  · clear h
    rcases Bool.eq_false_or_eq_true ((!decide (r32 = 0)) || (decide (p1 < 0))) with hc36 | hc36
    · skip
      refine wpR_pass (wantN rfl rfl rfl hc36) rfl rfl ?_
      refine wpR_pass (wantN rfl rfl rfl hc36) rfl rfl ?_
      refine rv (Value.bool true) w2 rfl rfl rfl (x_pickT (v := (Value.bool true)) rfl rfl hc36 rfl) ?_
      refine wpR_nil ?_
      exact ⟨(), ⟨(by rw [hc36]; rfl), e1, e2, trivial⟩, rfl⟩
    · skip
      refine wpR_val (v := (Value.int .i64 p1)) (w' := w2) (wantG rfl rfl rfl hc36) rfl rfl (x_move rfl e1) ?_
      refine wpR_val (v := (Value.bool (decide (1073741824 < p1)))) (w' := w2) (wantG rfl rfl rfl hc36) rfl rfl (x_gtr rfl rfl rfl) ?_
      refine rv (Value.bool (decide (1073741824 < p1))) w2 rfl rfl rfl (x_pickF (v := (Value.bool (decide (1073741824 < p1)))) rfl rfl hc36 rfl) ?_
      refine wpR_nil ?_
      exact ⟨(), ⟨(by rw [hc36]; rfl), e1, e2, trivial⟩, rfl⟩
  rintro _ ρ wj ⟨e17, e1, e2, -⟩ rfl
  refine wpR_nil ?_
  refine wpC_cond (b := ((!decide (r32 = 0)) || (decide (p1 < 0))) || (decide (1073741824 < p1))) e17 (fun hc37 => ?_) (fun hc37 => ?_)
  · replace h := h.1 hc37
    refine wpC_seq ?_
    refine wpC_region ?_
    refine rv (Value.int .i64 0) w2 rfl rfl rfl (x_assign rfl rfl) ?_
    refine rv (Value.int .i64 1) w2 rfl rfl rfl (x_assign rfl rfl) ?_
    refine wpR_nil ?_
    refine wpC_ret ?_
    exact ⟨.inl rfl, fun a ha => ⟨_, results_rep2 rfl ha rfl rfl, (0, 1), rfl, h⟩⟩
  · replace h := h.2 hc37
    refine wpC_skip ?_
    refine wpC_seq ?_
    refine wpC_region ?_
    refine rv (Value.int .i64 0) w2 rfl rfl rfl (x_assign rfl rfl) ?_
    refine wpR_nil ?_
    obtain ⟨J38, h, hk⟩ := h
    refine wpC_seqJ (fun (x : Int) ρ => ρ 6 = (Value.int .i64 x) ∧ ρ 1 = (Value.int .i64 p1) ∧ ρ 2 = (Value.pointer (some (Addr.mk b9 0 none))) ∧ True) J38 ?_ ?_
    · clear hk
      refine wpC_seq ?_
      refine wpC_cut (fun ρ => ρ 1 = (Value.int .i64 p1) ∧ ρ 2 = (Value.pointer (some (Addr.mk b9 0 none))) ∧ ρ 6 = (Value.int .i64 0) ∧ True) ⟨e1, e2, rfl, trivial⟩ ?_
      rintro ρ ⟨e1, e2, e6, -⟩
      refine wpC_region ?_
      refine rv (Value.pointer (some ((Addr.mk b9 0 none).add 19))) w2 rfl rfl rfl (x_fieldAddr rfl e2 FA_65_19) ?_
      obtain ⟨x40, q40, h⟩ := h
      refine rv (Value.int .i64 x40) w2 rfl rfl rfl (x_load1 rfl rfl SH_3 q40) ?_
      refine rv (Value.bool (decide (0 < x40))) w2 rfl rfl rfl (x_gtr rfl rfl rfl) ?_
      refine wpR_nil ?_
      refine wpC_cond (b := decide (0 < x40)) rfl (fun hc41 => ?_) (fun hc41 => ?_)
      · replace h := h.1 hc41
        refine wpC_cut (fun ρ => ρ 1 = (Value.int .i64 p1) ∧ ρ 2 = (Value.pointer (some (Addr.mk b9 0 none))) ∧ True) ⟨e1, e2, trivial⟩ ?_
        rintro ρ ⟨e1, e2, -⟩
        obtain ⟨J43, h, hk⟩ := h
        refine wpC_drawJ (by kernel_rfl) (fun (x : Int) ρ => ρ 6 = (Value.int .i64 x) ∧ ρ 1 = (Value.int .i64 p1) ∧ ρ 2 = (Value.pointer (some (Addr.mk b9 0 none))) ∧ True) J43 ?_ ?_
        · clear hk
          unfold tk at h
          generalize w2.drew = w4 at h ⊢
          refine wpD_take (v := (Value.int .i64 p1)) 0 (fun _ => True) rfl (by kernel_rfl) (by kernel_rfl) (by kernel_rfl) rfl rfl rfl trivial (fun w _ => (x_move (v := (Value.int .i64 p1)) rfl e1)) ?_
          refine wpD_take (v := (Value.pointer (some ((Addr.mk b9 0 none).add 20)))) 1 (fun _ => True) rfl (by kernel_rfl) (by kernel_rfl) (by kernel_rfl) rfl rfl rfl trivial (fun w _ => (x_fieldAddr rfl e2 FA_65_20)) ?_
          obtain ⟨x44, q44, h⟩ := h
          refine wpD_take (v := (Value.int .i64 x44)) 2 (fun w => w.cell? ((Addr.mk b9 0 none).add 20) = some (Value.int .i64 x44)) rfl (by kernel_rfl) (by kernel_rfl) (by kernel_rfl) rfl rfl rfl q44 (fun w q44 => (x_load1 rfl rfl SH_3 q44)) ?_
          obtain ⟨q45, h⟩ := h
          refine wpD_take (v := (Value.int .i64 (IntKind.i64.wrap (p1.tdiv x44)))) 3 (fun _ => True) rfl (by kernel_rfl) (by kernel_rfl) (by kernel_rfl) rfl rfl rfl trivial (fun w _ => (x_quo rfl rfl rfl q45)) ?_
          refine wpD_take (v := (Value.pointer (some ((Addr.mk b9 0 none).add 19)))) 4 (fun _ => True) rfl (by kernel_rfl) (by kernel_rfl) (by kernel_rfl) rfl rfl rfl trivial (fun w _ => (x_fieldAddr rfl e2 FA_65_19)) ?_
          obtain ⟨x46, q46, h⟩ := h
          refine wpD_take (v := (Value.int .i64 x46)) 5 (fun w => w.cell? ((Addr.mk b9 0 none).add 19) = some (Value.int .i64 x46)) rfl (by kernel_rfl) (by kernel_rfl) (by kernel_rfl) rfl rfl rfl q46 (fun w q46 => (x_load1 rfl rfl SH_3 q46)) ?_
          refine wpD_take (v := (Value.int .i64 (IntKind.i64.wrap ((IntKind.i64.wrap (p1.tdiv x44)) * x46)))) 6 (fun _ => True) rfl (by kernel_rfl) (by kernel_rfl) (by kernel_rfl) rfl rfl rfl trivial (fun w _ => (x_mul rfl rfl rfl)) ?_
          refine wpD_take (v := (Value.int .i64 p1)) 7 (fun _ => True) rfl (by kernel_rfl) (by kernel_rfl) (by kernel_rfl) rfl rfl rfl trivial (fun w _ => (x_move (v := (Value.int .i64 p1)) rfl e1)) ?_
          refine wpD_take (v := (Value.pointer (some ((Addr.mk b9 0 none).add 20)))) 8 (fun _ => True) rfl (by kernel_rfl) (by kernel_rfl) (by kernel_rfl) rfl rfl rfl trivial (fun w _ => (x_fieldAddr rfl e2 FA_65_20)) ?_
          obtain ⟨x47, q47, h⟩ := h
          refine wpD_take (v := (Value.int .i64 x47)) 9 (fun w => w.cell? ((Addr.mk b9 0 none).add 20) = some (Value.int .i64 x47)) rfl (by kernel_rfl) (by kernel_rfl) (by kernel_rfl) rfl rfl rfl q47 (fun w q47 => (x_load1 rfl rfl SH_3 q47)) ?_
          obtain ⟨q48, h⟩ := h
          refine wpD_take (v := (Value.int .i64 (p1.tmod x47))) 10 (fun _ => True) rfl (by kernel_rfl) (by kernel_rfl) (by kernel_rfl) rfl rfl rfl trivial (fun w _ => (x_rem rfl rfl rfl q48)) ?_
          refine wpD_take (v := (Value.pointer (some ((Addr.mk b9 0 none).add 19)))) 11 (fun _ => True) rfl (by kernel_rfl) (by kernel_rfl) (by kernel_rfl) rfl rfl rfl trivial (fun w _ => (x_fieldAddr rfl e2 FA_65_19)) ?_
          obtain ⟨x49, q49, h⟩ := h
          refine wpD_take (v := (Value.int .i64 x49)) 12 (fun w => w.cell? ((Addr.mk b9 0 none).add 19) = some (Value.int .i64 x49)) rfl (by kernel_rfl) (by kernel_rfl) (by kernel_rfl) rfl rfl rfl q49 (fun w q49 => (x_load1 rfl rfl SH_3 q49)) ?_
          refine wpD_take (v := (Value.int .i64 (min (p1.tmod x47) x49))) 13 (fun _ => True) rfl (by kernel_rfl) (by kernel_rfl) (by kernel_rfl) rfl rfl rfl trivial (fun w _ => (x_min rfl rfl rfl)) ?_
          refine wpD_take (v := (Value.int .i64 (IntKind.i64.wrap ((IntKind.i64.wrap ((IntKind.i64.wrap (p1.tdiv x44)) * x46)) + (min (p1.tmod x47) x49))))) 14 (fun _ => True) rfl (by kernel_rfl) (by kernel_rfl) (by kernel_rfl) rfl rfl rfl trivial (fun w _ => (x_add rfl rfl rfl)) ?_
          refine wpD_take (v := (Value.int .i64 (IntKind.i64.wrap ((IntKind.i64.wrap ((IntKind.i64.wrap (p1.tdiv x44)) * x46)) + (min (p1.tmod x47) x49))))) 15 (fun _ => True) rfl (by kernel_rfl) (by kernel_rfl) (by kernel_rfl) rfl rfl rfl trivial (fun w _ => (x_assign (v := (Value.int .i64 (IntKind.i64.wrap ((IntKind.i64.wrap ((IntKind.i64.wrap (p1.tdiv x44)) * x46)) + (min (p1.tmod x47) x49))))) rfl rfl)) ?_
          exact wpD_done (by kernel_rfl) ⟨IntKind.i64.wrap ((IntKind.i64.wrap ((IntKind.i64.wrap (p1.tdiv x44)) * x46)) + (min (p1.tmod x47) x49)), ⟨rfl, e1, e2, trivial⟩, h⟩
        clear h
        rintro l50 ρ w5 ⟨e6, e1, e2, -⟩ h
        replace h := hk l50 w5 h
        clear hk
        exact ⟨l50, ⟨e6, e1, e2, trivial⟩, h⟩
      · replace h := h.2 hc41
        refine wpC_skip ?_
        exact ⟨0, ⟨e6, e1, e2, trivial⟩, h⟩
    clear h
    rintro l39 ρ w3 ⟨e6, e1, e2, -⟩ h
    replace h := hk l39 w3 h
    clear hk
    refine wpC_seq ?_
    refine wpC_region ?_
    obtain ⟨x51, q51, x52, q52, x53, q53, x54, q54, x55, q55, x56, q56, x57, q57, x58, q58, x59, q59, x60, q60, x61, q61, x62, q62, x63, q63, x64, q64, x65, q65, x66, q66, x67, q67, x68, q68, x69, q69, x70, q70, x71, q71, x72, q72, h⟩ := h
    refine rv (V64 x51 x52 x53 x54 x55 x56 x57 x58 x59 x60 x61 x62 x63 x64 x65 x66 x67 x68 x69 x70 x71 x72) w3 rfl rfl rfl (x_loadN (S64 x51 x52 x53 x54 x55 x56 x57 x58 x59 x60 x61 x62 x63 x64 x65 x66 x67 x68 x69 x70 x71 x72) rfl e2 SH_65 (K64 ⟨q51, q52, q53, q54, q55, q56, q57, q58, q59, q60, q61, q62, q63, q64, q65, q66, q67, q68, q69, q70, q71, q72⟩)) ?_
    refine rv (Value.int .i64 p1) w3 rfl rfl rfl (x_move rfl e1) ?_
    refine rv (Value.int .i64 l39) w3 rfl rfl rfl (x_move rfl e6) ?_
    refine rv (Value.int .i64 (IntKind.i64.wrap (p1 - l39))) w3 rfl rfl rfl (x_sub rfl rfl rfl) ?_
    refine wpR_enter rfl rfl rfl (x_call (vs := [(V64 x51 x52 x53 x54 x55 x56 x57 x58 x59 x60 x61 x62 x63 x64 x65 x66 x67 x68 x69 x70 x71 x72), (Value.int .i64 (IntKind.i64.wrap (p1 - l39)))]) rfl rfl (mapl_cons rfl (mapl_cons rfl mapl_nil)) Tryz.func136 NN_136 NB_136) (Calls.mono h ?_)
    rintro _ w6 ⟨r73, rfl, h⟩
    refine ⟨_, rfl, ?_⟩
    refine rv (Value.int .i64 r73.1) w6 rfl rfl rfl (x_extract rfl rfl rfl) ?_
    refine rv (Value.int .i64 r73.2) w6 rfl rfl rfl (x_extract rfl rfl rfl) ?_
    refine rv (Value.int .i64 r73.1) w6 rfl rfl rfl (x_assign rfl rfl) ?_
    refine rv (Value.int .i64 r73.2) w6 rfl rfl rfl (x_assign rfl rfl) ?_
    refine wpR_nil ?_
    refine wpC_ret ?_
    exact ⟨.inl rfl, fun a ha => ⟨_, results_rep2 rfl ha rfl rfl, (r73.1, r73.2), rfl, h⟩⟩

/-- lex.letter -/
def F115 (p0 : Int) (w0 : World) (K : Bool → World → Prop) : Prop :=
  K ((decide (97 ≤ p0)) && (decide (p0 ≤ 122))) w0
set_option maxRecDepth 100000 in
theorem D115 (p0 : Int) (w0 : World) (K : Bool → World → Prop) (h : F115 p0 w0 K) : callC Tryz.prog 115 #[(Value.int .u8 p0)] (fun (r : Bool) => (Value.bool r)) w0 K := by
  unfold F115 at h
  refine calls_of_wpC Tryz.func115 rfl 9 rfl (by simp) ?_
  intro ρ hρ
  have e0 : ρ 0 = (Value.int .u8 p0) := hρ 0
  clear hρ
  refine wpC_seq ?_
  refine wpC_region ?_
  refine rv (Value.bool false) w0 rfl rfl rfl (x_assign rfl rfl) ?_
  refine wpR_nil ?_
  refine wpC_seq ?_
  refine wpC_cut (fun ρ => ρ 0 = (Value.int .u8 p0) ∧ True) ⟨e0, trivial⟩ ?_
  rintro ρ ⟨e0, -⟩
  refine wpC_region ?_
  refine rv (Value.int .u8 p0) w0 rfl rfl rfl (x_move rfl e0) ?_
  refine rv (Value.bool (decide (97 ≤ p0))) w0 rfl rfl rfl (x_geq rfl rfl rfl) ?_
  refine rv (Value.bool (decide (97 ≤ p0))) w0 rfl rfl rfl (x_move rfl rfl) ?_
  refine wpR_joinJ 3 (fun (_ : Unit) ρ => ρ 8 = Value.bool ((decide (97 ≤ p0)) && (decide (p0 ≤ 122))) ∧ True) (fun _ w => w0 = w) ?_ ?_
  · clear h
    rcases Bool.eq_false_or_eq_true (decide (97 ≤ p0)) with hc10 | hc10
    · skip
      refine wpR_val (v := (Value.int .u8 p0)) (w' := w0) (wantG rfl rfl rfl hc10) rfl rfl (x_move rfl e0) ?_
      refine wpR_val (v := (Value.bool (decide (p0 ≤ 122)))) (w' := w0) (wantG rfl rfl rfl hc10) rfl rfl (x_leq rfl rfl rfl) ?_
      refine rv (Value.bool (decide (p0 ≤ 122))) w0 rfl rfl rfl (x_pickT (v := (Value.bool (decide (p0 ≤ 122)))) rfl rfl hc10 rfl) ?_
      refine wpR_nil ?_
      exact ⟨(), ⟨(by rw [hc10]; rfl), trivial⟩, rfl⟩
    · skip
      refine wpR_pass (wantN rfl rfl rfl hc10) rfl rfl ?_
      refine wpR_pass (wantN rfl rfl rfl hc10) rfl rfl ?_
      refine rv (Value.bool false) w0 rfl rfl rfl (x_pickF (v := (Value.bool false)) rfl rfl hc10 rfl) ?_
      refine wpR_nil ?_
      exact ⟨(), ⟨(by rw [hc10]; rfl), trivial⟩, rfl⟩
  rintro _ ρ wj ⟨e8, -⟩ rfl
  refine rv (Value.bool ((decide (97 ≤ p0)) && (decide (p0 ≤ 122)))) w0 rfl rfl rfl (x_assign rfl e8) ?_
  refine wpR_nil ?_
  refine wpC_ret ?_
  exact ⟨.inl rfl, fun a ha => ⟨_, results_rep1 rfl ha rfl, (decide (97 ≤ p0)) && (decide (p0 ≤ 122)), rfl, h⟩⟩

/-- lex.span -/
def F116 (p0 : ByteArray) (p1 : Value) (w0 : World) (K : Int → World → Prop) : Prop :=
  lp (fun (next9 : Int → World → Prop) l9 w1 =>
    jn (fun J10 => cnd (decide (l9 < (p0.size : Int)))
      (
      rn Tryz.prog (Instr.index 9 (Value.string p0) (Value.int .i64 l9)) (fun (r : Int) => (Value.int .u8 r)) w1 fun r12 w2 =>
      cv Tryz.prog p1 [(Value.int .u8 r12)] (fun (r : Bool) => (Value.bool r)) w2 fun r13 w3 =>
      J10 r13 w3
      )
      (
      J10 false w1
      ))
    fun c14 w4 =>
    cnd (c14)
      (
      next9 (IntKind.i64.wrap (l9 + 1)) w4
      )
      (
      K l9 w4
      )
  ) 0 w0
set_option maxRecDepth 100000 in
theorem D116 (p0 : ByteArray) (p1 : Value) (w0 : World) (K : Int → World → Prop) (h : F116 p0 p1 w0 K) : callC Tryz.prog 116 #[(Value.string p0), p1] (fun (r : Int) => (Value.int .i64 r)) w0 K := by
  unfold F116 at h
  refine calls_of_wpC Tryz.func116 rfl 20 rfl (by simp) ?_
  intro ρ hρ
  have e0 : ρ 0 = (Value.string p0) := hρ 0
  have e1 : ρ 1 = p1 := hρ 1
  clear hρ
  refine wpC_seq ?_
  refine wpC_region ?_
  refine rv (Value.int .i64 0) w0 rfl rfl rfl (x_assign rfl rfl) ?_
  refine wpR_nil ?_
  refine wpC_seq ?_
  refine wpC_cut (fun ρ => ρ 0 = (Value.string p0) ∧ ρ 1 = p1 ∧ True) ⟨e0, e1, trivial⟩ ?_
  rintro ρ ⟨e0, e1, -⟩
  refine wpC_region ?_
  refine rv (Value.int .i64 0) w0 rfl rfl rfl (x_assign rfl rfl) ?_
  refine wpR_nil ?_
  refine wpC_seq ?_
  refine wpC_block ?_
  obtain ⟨I9, μ9, hI9, hr9⟩ := h
  refine wpC_loop (fun (x : Int) ρ => ρ 5 = (Value.int .i64 x) ∧ ρ 0 = (Value.string p0) ∧ ρ 1 = p1 ∧ True) I9 μ9 0 ⟨rfl, e0, e1, trivial⟩ hI9 ?_
  rintro l9 ρ w1 ⟨e5, e0, e1, -⟩ h
  replace h := hr9 l9 w1 h
  clear hr9 hI9
  refine wpC_seq ?_
  refine wpC_seq ?_
  refine wpC_region ?_
  refine rv (Value.int .i64 l9) w1 rfl rfl rfl (x_move rfl e5) ?_
  refine rv (Value.string p0) w1 rfl rfl rfl (x_move rfl e0) ?_
  refine rv (Value.int .i64 (p0.size : Int)) w1 rfl rfl rfl (x_lenStr rfl rfl isStrT_9) ?_
  refine rv (Value.bool (decide (l9 < (p0.size : Int)))) w1 rfl rfl rfl (x_lss rfl rfl rfl) ?_
  refine rv (Value.bool (decide (l9 < (p0.size : Int)))) w1 rfl rfl rfl (x_move rfl rfl) ?_
  obtain ⟨J10, h, hk⟩ := h
  refine wpR_joinJ 6 (fun x ρ => ρ 16 = Value.bool x ∧ ρ 0 = (Value.string p0) ∧ ρ 1 = p1 ∧ ρ 5 = (Value.int .i64 l9) ∧ True) (J10) ?_ ?_
  · clear hk
    rcases Bool.eq_false_or_eq_true (decide (l9 < (p0.size : Int))) with hc11 | hc11
    · replace h := h.1 hc11
      refine wpR_val (v := p1) (w' := w1) (wantG rfl rfl rfl hc11) rfl rfl (x_move rfl e1) ?_
      refine wpR_val (v := (Value.string p0)) (w' := w1) (wantG rfl rfl rfl hc11) rfl rfl (x_move rfl e0) ?_
      refine wpR_val (v := (Value.int .i64 l9)) (w' := w1) (wantG rfl rfl rfl hc11) rfl rfl (x_move rfl e5) ?_
      obtain ⟨r12, w2, q12, h⟩ := h
      refine wpR_val (v := (Value.int .u8 r12)) (w' := w2) (wantG rfl rfl rfl hc11) rfl rfl (x_index rfl rfl rfl q12) ?_
      obtain ⟨f13, fi13, ca13, fn13, qv13, qf13, qn13, qb13, h⟩ := h
      refine wpR_enter (wantG rfl rfl rfl hc11) rfl rfl (x_callv (vs := [(Value.int .u8 r12)]) rfl ((show _ = p1 from rfl).trans qv13) (mapl_cons rfl mapl_nil) qf13 qn13 qb13) (Calls.mono h ?_)
      rintro _ w3 ⟨r13, rfl, h⟩
      refine ⟨_, rfl, ?_⟩
      refine rv (Value.bool r13) w3 rfl rfl rfl (x_pickT (v := (Value.bool r13)) rfl rfl hc11 rfl) ?_
      refine wpR_nil ?_
      exact ⟨r13, ⟨rfl, e0, e1, e5, trivial⟩, h⟩
    · replace h := h.2 hc11
      refine wpR_pass (wantN rfl rfl rfl hc11) rfl rfl ?_
      refine wpR_pass (wantN rfl rfl rfl hc11) rfl rfl ?_
      refine wpR_pass (wantN rfl rfl rfl hc11) rfl rfl ?_
      refine wpR_pass (wantN rfl rfl rfl hc11) rfl rfl ?_
      refine wpR_pass (wantN rfl rfl rfl hc11) rfl rfl ?_
      refine rv (Value.bool false) w1 rfl rfl rfl (x_pickF (v := (Value.bool false)) rfl rfl hc11 rfl) ?_
      refine wpR_nil ?_
      exact ⟨false, ⟨rfl, e0, e1, e5, trivial⟩, h⟩
  clear h
  rintro c14 ρ w4 ⟨e16, e0, e1, e5, -⟩ h
  replace h := hk c14 w4 h
  clear hk
  refine wpR_nil ?_
  refine wpC_cond (b := c14) e16 (fun hc15 => ?_) (fun hc15 => ?_)
  · replace h := h.1 hc15
    refine wpC_skip ?_
    refine wpC_block ?_
    refine wpC_region ?_
    refine rv (Value.int .i64 l9) w4 rfl rfl rfl (x_move rfl e5) ?_
    refine rv (Value.int .i64 (IntKind.i64.wrap (l9 + 1))) w4 rfl rfl rfl (x_add rfl rfl rfl) ?_
    refine rv (Value.int .i64 (IntKind.i64.wrap (l9 + 1))) w4 rfl rfl rfl (x_assign rfl rfl) ?_
    refine wpR_nil ?_
    exact ⟨IntKind.i64.wrap (l9 + 1), ⟨rfl, e0, e1, trivial⟩, h⟩
  · replace h := h.2 hc15
    refine wpC_exit ?_
    refine wpC_seq ?_
    refine wpC_region ?_
    refine rv (Value.int .i64 l9) w4 rfl rfl rfl (x_move rfl e5) ?_
    refine rv (Value.int .i64 l9) w4 rfl rfl rfl (x_assign rfl rfl) ?_
    refine wpR_nil ?_
    refine wpC_ret ?_
    exact ⟨.inl rfl, fun a ha => ⟨_, results_rep1 rfl ha rfl, l9, rfl, h⟩⟩

/-- lex.Word$1 -/
def F117 (p0 : Int) (w0 : World) (K : Bool → World → Prop) : Prop :=
  callC Tryz.prog 115 #[(Value.int .u8 p0)] (fun (r : Bool) => (Value.bool r)) w0 fun r9 w1 =>
  jn (fun J10 => cnd (r9)
    (
    J10 true w1
    )
    (
    callC Tryz.prog 118 #[(Value.int .u8 p0)] (fun (r : Bool) => (Value.bool r)) w1 fun r12 w2 =>
    J10 r12 w2
    ))
  fun c13 w3 =>
  K c13 w3
set_option maxRecDepth 100000 in
theorem D117 (p0 : Int) (w0 : World) (K : Bool → World → Prop) (h : F117 p0 w0 K) : callC Tryz.prog 117 #[(Value.int .u8 p0)] (fun (r : Bool) => (Value.bool r)) w0 K := by
  unfold F117 at h
  refine calls_of_wpC Tryz.func117 rfl 9 rfl (by simp) ?_
  intro ρ hρ
  have e0 : ρ 0 = (Value.int .u8 p0) := hρ 0
  clear hρ
  refine wpC_seq ?_
  refine wpC_region ?_
  refine rv (Value.bool false) w0 rfl rfl rfl (x_assign rfl rfl) ?_
  refine wpR_nil ?_
  refine wpC_seq ?_
  refine wpC_cut (fun ρ => ρ 0 = (Value.int .u8 p0) ∧ True) ⟨e0, trivial⟩ ?_
  rintro ρ ⟨e0, -⟩
  refine wpC_region ?_
  refine rv (Value.int .u8 p0) w0 rfl rfl rfl (x_move rfl e0) ?_
  refine wpR_enter rfl rfl rfl (x_call (vs := [(Value.int .u8 p0)]) rfl rfl (mapl_cons rfl mapl_nil) Tryz.func115 NN_115 NB_115) (Calls.mono h ?_)
  rintro _ w1 ⟨r9, rfl, h⟩
  refine ⟨_, rfl, ?_⟩
  refine rv (Value.bool r9) w1 rfl rfl rfl (x_move rfl rfl) ?_
  obtain ⟨J10, h, hk⟩ := h
  refine wpR_joinJ 3 (fun x ρ => ρ 8 = Value.bool x ∧ True) (J10) ?_ ?_
  · clear hk
    rcases Bool.eq_false_or_eq_true (r9) with hc11 | hc11
    · replace h := h.1 hc11
      refine wpR_pass (wantN rfl rfl rfl hc11) rfl rfl ?_
      refine wpR_pass (wantN rfl rfl rfl hc11) rfl rfl ?_
      refine rv (Value.bool true) w1 rfl rfl rfl (x_pickT (v := (Value.bool true)) rfl rfl hc11 rfl) ?_
      refine wpR_nil ?_
      exact ⟨true, ⟨rfl, trivial⟩, h⟩
    · replace h := h.2 hc11
      refine wpR_val (v := (Value.int .u8 p0)) (w' := w1) (wantG rfl rfl rfl hc11) rfl rfl (x_move rfl e0) ?_
      refine wpR_enter (wantG rfl rfl rfl hc11) rfl rfl (x_call (vs := [(Value.int .u8 p0)]) rfl rfl (mapl_cons rfl mapl_nil) Tryz.func118 NN_118 NB_118) (Calls.mono h ?_)
      rintro _ w2 ⟨r12, rfl, h⟩
      refine ⟨_, rfl, ?_⟩
      refine rv (Value.bool r12) w2 rfl rfl rfl (x_pickF (v := (Value.bool r12)) rfl rfl hc11 rfl) ?_
      refine wpR_nil ?_
      exact ⟨r12, ⟨rfl, trivial⟩, h⟩
  clear h
  rintro c13 ρ w3 ⟨e8, -⟩ h
  replace h := hk c13 w3 h
  clear hk
  refine rv (Value.bool c13) w3 rfl rfl rfl (x_assign rfl e8) ?_
  refine wpR_nil ?_
  refine wpC_ret ?_
  exact ⟨.inl rfl, fun a ha => ⟨_, results_rep1 rfl ha rfl, c13, rfl, h⟩⟩

/-- lex.digit -/
def F118 (p0 : Int) (w0 : World) (K : Bool → World → Prop) : Prop :=
  K ((decide (48 ≤ p0)) && (decide (p0 ≤ 57))) w0
set_option maxRecDepth 100000 in
theorem D118 (p0 : Int) (w0 : World) (K : Bool → World → Prop) (h : F118 p0 w0 K) : callC Tryz.prog 118 #[(Value.int .u8 p0)] (fun (r : Bool) => (Value.bool r)) w0 K := by
  unfold F118 at h
  refine calls_of_wpC Tryz.func118 rfl 9 rfl (by simp) ?_
  intro ρ hρ
  have e0 : ρ 0 = (Value.int .u8 p0) := hρ 0
  clear hρ
  refine wpC_seq ?_
  refine wpC_region ?_
  refine rv (Value.bool false) w0 rfl rfl rfl (x_assign rfl rfl) ?_
  refine wpR_nil ?_
  refine wpC_seq ?_
  refine wpC_cut (fun ρ => ρ 0 = (Value.int .u8 p0) ∧ True) ⟨e0, trivial⟩ ?_
  rintro ρ ⟨e0, -⟩
  refine wpC_region ?_
  refine rv (Value.int .u8 p0) w0 rfl rfl rfl (x_move rfl e0) ?_
  refine rv (Value.bool (decide (48 ≤ p0))) w0 rfl rfl rfl (x_geq rfl rfl rfl) ?_
  refine rv (Value.bool (decide (48 ≤ p0))) w0 rfl rfl rfl (x_move rfl rfl) ?_
  refine wpR_joinJ 3 (fun (_ : Unit) ρ => ρ 8 = Value.bool ((decide (48 ≤ p0)) && (decide (p0 ≤ 57))) ∧ True) (fun _ w => w0 = w) ?_ ?_
  · clear h
    rcases Bool.eq_false_or_eq_true (decide (48 ≤ p0)) with hc10 | hc10
    · skip
      refine wpR_val (v := (Value.int .u8 p0)) (w' := w0) (wantG rfl rfl rfl hc10) rfl rfl (x_move rfl e0) ?_
      refine wpR_val (v := (Value.bool (decide (p0 ≤ 57)))) (w' := w0) (wantG rfl rfl rfl hc10) rfl rfl (x_leq rfl rfl rfl) ?_
      refine rv (Value.bool (decide (p0 ≤ 57))) w0 rfl rfl rfl (x_pickT (v := (Value.bool (decide (p0 ≤ 57)))) rfl rfl hc10 rfl) ?_
      refine wpR_nil ?_
      exact ⟨(), ⟨(by rw [hc10]; rfl), trivial⟩, rfl⟩
    · skip
      refine wpR_pass (wantN rfl rfl rfl hc10) rfl rfl ?_
      refine wpR_pass (wantN rfl rfl rfl hc10) rfl rfl ?_
      refine rv (Value.bool false) w0 rfl rfl rfl (x_pickF (v := (Value.bool false)) rfl rfl hc10 rfl) ?_
      refine wpR_nil ?_
      exact ⟨(), ⟨(by rw [hc10]; rfl), trivial⟩, rfl⟩
  rintro _ ρ wj ⟨e8, -⟩ rfl
  refine rv (Value.bool ((decide (48 ≤ p0)) && (decide (p0 ≤ 57)))) w0 rfl rfl rfl (x_assign rfl e8) ?_
  refine wpR_nil ?_
  refine wpC_ret ?_
  exact ⟨.inl rfl, fun a ha => ⟨_, results_rep1 rfl ha rfl, (decide (48 ≤ p0)) && (decide (p0 ≤ 57)), rfl, h⟩⟩

/-- slices.IndexFunc[[]string,string] -/
def F119 (p0 : Sl) (p1 : Value) (w0 : World) (K : Int → World → Prop) : Prop :=
  lp (fun (next9 : Int → World → Prop) l9 w1 =>
    cnd (decide (l9 < (p0.len : Int)))
      (
      ix p0 l9 1 fun p11 =>
      ld Value.string p11 w1 fun x12 =>
      cv Tryz.prog p1 [(Value.string x12)] (fun (r : Bool) => (Value.bool r)) w1 fun r13 w2 =>
      cnd (r13)
        (
        K l9 w2
        )
        (
        next9 (IntKind.i64.wrap (l9 + 1)) w2
        )
      )
      (
      K (-1) w1
      )
  ) 0 w0
set_option maxRecDepth 100000 in
theorem D119 (p0 : Sl) (p1 : Value) (w0 : World) (K : Int → World → Prop) (h : F119 p0 p1 w0 K) : callC Tryz.prog 119 #[(Sl.v p0), p1] (fun (r : Int) => (Value.int .i64 r)) w0 K := by
  unfold F119 at h
  refine calls_of_wpC Tryz.func119 rfl 19 rfl (by simp) ?_
  intro ρ hρ
  have e0 : ρ 0 = (Sl.v p0) := hρ 0
  have e1 : ρ 1 = p1 := hρ 1
  clear hρ
  refine wpC_seq ?_
  refine wpC_region ?_
  refine rv (Value.int .i64 0) w0 rfl rfl rfl (x_assign rfl rfl) ?_
  refine wpR_nil ?_
  refine wpC_seq ?_
  refine wpC_seq ?_
  refine wpC_cut (fun ρ => ρ 0 = (Sl.v p0) ∧ ρ 1 = p1 ∧ True) ⟨e0, e1, trivial⟩ ?_
  rintro ρ ⟨e0, e1, -⟩
  refine wpC_region ?_
  refine rv (Sl.v p0) w0 rfl rfl rfl (x_move rfl e0) ?_
  refine rv (Value.int .i64 (p0.len : Int)) w0 rfl rfl rfl (x_lenS (s := p0) rfl rfl isSliceT_63) ?_
  refine rv (Value.int .i64 0) w0 rfl rfl rfl (x_move rfl rfl) ?_
  refine wpR_nil ?_
  refine wpC_block ?_
  obtain ⟨I9, μ9, hI9, hr9⟩ := h
  refine wpC_loop (fun (x : Int) ρ => ρ 8 = (Value.int .i64 x) ∧ ρ 0 = (Sl.v p0) ∧ ρ 1 = p1 ∧ ρ 7 = (Value.int .i64 (p0.len : Int)) ∧ True) I9 μ9 0 ⟨rfl, e0, e1, rfl, trivial⟩ hI9 ?_
  rintro l9 ρ w1 ⟨e8, e0, e1, e7, -⟩ h
  replace h := hr9 l9 w1 h
  clear hr9 hI9
  refine wpC_seq ?_
  refine wpC_region ?_
  refine rv (Value.bool (decide (l9 < (p0.len : Int)))) w1 rfl rfl rfl (x_lss rfl e8 e7) ?_
  refine wpR_nil ?_
  refine wpC_seq ?_
  refine wpC_cond (b := decide (l9 < (p0.len : Int))) rfl (fun hc10 => ?_) (fun hc10 => ?_)
  · replace h := h.1 hc10
    refine wpC_skip ?_
    refine wpC_seq ?_
    refine wpC_block ?_
    refine wpC_seq ?_
    refine wpC_cut (fun ρ => ρ 0 = (Sl.v p0) ∧ ρ 1 = p1 ∧ ρ 7 = (Value.int .i64 (p0.len : Int)) ∧ ρ 8 = (Value.int .i64 l9) ∧ True) ⟨e0, e1, e7, e8, trivial⟩ ?_
    rintro ρ ⟨e0, e1, e7, e8, -⟩
    refine wpC_region ?_
    refine rv (Value.int .i64 l9) w1 rfl rfl rfl (x_move rfl e8) ?_
    refine rv (Value.int .i64 l9) w1 rfl rfl rfl (x_assign rfl rfl) ?_
    refine wpR_nil ?_
    refine wpC_seq ?_
    refine wpC_cut (fun ρ => ρ 0 = (Sl.v p0) ∧ ρ 1 = p1 ∧ ρ 5 = (Value.int .i64 l9) ∧ ρ 7 = (Value.int .i64 (p0.len : Int)) ∧ ρ 8 = (Value.int .i64 l9) ∧ True) ⟨e0, e1, rfl, e7, e8, trivial⟩ ?_
    rintro ρ ⟨e0, e1, e5, e7, e8, -⟩
    refine wpC_region ?_
    refine rv p1 w1 rfl rfl rfl (x_move rfl e1) ?_
    refine rv (Sl.v p0) w1 rfl rfl rfl (x_move rfl e0) ?_
    refine rv (Value.int .i64 l9) w1 rfl rfl rfl (x_move rfl e5) ?_
    obtain ⟨q11, z11, r11, h⟩ := h
    generalize hp11 : z11.add ((l9 : Int).toNat * 1) = p11 at h
    refine rv (Value.pointer (some p11)) w1 rfl rfl rfl ((x_indexAddr (s := p0) rfl rfl rfl ES_63 q11 r11).trans (by rw [hp11])) ?_
    obtain ⟨x12, q12, h⟩ := h
    refine rv (Value.string x12) w1 rfl rfl rfl (x_load1 rfl rfl SH_9 q12) ?_
    obtain ⟨f13, fi13, ca13, fn13, qv13, qf13, qn13, qb13, h⟩ := h
    refine wpR_enter rfl rfl rfl (x_callv (vs := [(Value.string x12)]) rfl ((show _ = p1 from rfl).trans qv13) (mapl_cons rfl mapl_nil) qf13 qn13 qb13) (Calls.mono h ?_)
    rintro _ w2 ⟨r13, rfl, h⟩
    refine ⟨_, rfl, ?_⟩
    refine wpR_nil ?_
    refine wpC_cond (b := r13) rfl (fun hc14 => ?_) (fun hc14 => ?_)
    · replace h := h.1 hc14
      refine wpC_seq ?_
      refine wpC_cut (fun ρ => ρ 5 = (Value.int .i64 l9) ∧ True) ⟨e5, trivial⟩ ?_
      rintro ρ ⟨e5, -⟩
      refine wpC_region ?_
      refine rv (Value.int .i64 l9) w2 rfl rfl rfl (x_move rfl e5) ?_
      refine rv (Value.int .i64 l9) w2 rfl rfl rfl (x_assign rfl rfl) ?_
      refine wpR_nil ?_
      refine wpC_ret ?_
      exact ⟨.inl rfl, fun a ha => ⟨_, results_rep1 rfl ha rfl, l9, rfl, h⟩⟩
    · replace h := h.2 hc14
      refine wpC_skip ?_
      refine wpC_cut (fun ρ => ρ 0 = (Sl.v p0) ∧ ρ 1 = p1 ∧ ρ 7 = (Value.int .i64 (p0.len : Int)) ∧ ρ 8 = (Value.int .i64 l9) ∧ True) ⟨e0, e1, e7, e8, trivial⟩ ?_
      rintro ρ ⟨e0, e1, e7, e8, -⟩
      refine wpC_region ?_
      refine rv (Value.int .i64 (IntKind.i64.wrap (l9 + 1))) w2 rfl rfl rfl (x_add rfl e8 rfl) ?_
      refine rv (Value.int .i64 (IntKind.i64.wrap (l9 + 1))) w2 rfl rfl rfl (x_move rfl rfl) ?_
      refine wpR_nil ?_
      exact ⟨IntKind.i64.wrap (l9 + 1), ⟨rfl, e0, e1, e7, trivial⟩, h⟩
  · replace h := h.2 hc10
    refine wpC_exit ?_
    refine wpC_seq ?_
    refine wpC_cut (fun ρ => True) trivial ?_
    rintro ρ -
    refine wpC_region ?_
    refine rv (Value.int .i64 (-1)) w1 rfl rfl rfl (x_assign rfl rfl) ?_
    refine wpR_nil ?_
    refine wpC_ret ?_
    exact ⟨.inl rfl, fun a ha => ⟨_, results_rep1 rfl ha rfl, (-1), rfl, h⟩⟩

/-- supply.places -/
def F136 (p0_0 : ByteArray) (p0_1 : Int) (p0_2 : Int) (p0_3 : Int) (p0_4 : Bool) (p0_5 : Int) (p0_6 : Bool) (p0_7 : Bool) (p0_8 : Int) (p0_9 : Int) (p0_10 : Int) (p0_11 : Int) (p0_12 : Sl) (p0_13 : Int) (p0_14 : Int) (p0_15 : Int) (p0_16 : Int) (p0_17 : Bool) (p0_18 : Int) (p0_19 : Int) (p0_20 : Int) (p0_21 : Int) (p1 : Int) (w0 : World) (K : (Int × Int) → World → Prop) : Prop :=
  nw 65 (A64 p0_0 p0_1 p0_2 p0_3 p0_4 p0_5 p0_6 p0_7 p0_8 p0_9 p0_10 p0_11 p0_12 p0_13 p0_14 p0_15 p0_16 p0_17 p0_18 p0_19 p0_20 p0_21) w0 fun b9 w1 =>
  jn (fun (J11 : Bool → World → Prop) => tk w1 fun w2 =>
    cnd (decide (0 < p1))
      (
      ld (Value.int .i64) ((Addr.mk b9 0 none).add 18) w2 fun x13 =>
      p1 ≠ 0 ∧
      J11 (decide ((IntKind.i64.wrap ((4503599627370496 : Int).tdiv p1)) < x13)) w2
      )
      (
      J11 false w2
      )
  )
  fun l15 w3 =>
  cnd (l15)
    (
    K (0, 3) w3
    )
    (
    ld (Value.int .i64) ((Addr.mk b9 0 none).add 18) w3 fun x17 =>
    K (IntKind.i64.wrap (x17 * p1), 0) w3
    )
set_option maxRecDepth 100000 in
theorem D136 (p0_0 : ByteArray) (p0_1 : Int) (p0_2 : Int) (p0_3 : Int) (p0_4 : Bool) (p0_5 : Int) (p0_6 : Bool) (p0_7 : Bool) (p0_8 : Int) (p0_9 : Int) (p0_10 : Int) (p0_11 : Int) (p0_12 : Sl) (p0_13 : Int) (p0_14 : Int) (p0_15 : Int) (p0_16 : Int) (p0_17 : Bool) (p0_18 : Int) (p0_19 : Int) (p0_20 : Int) (p0_21 : Int) (p1 : Int) (w0 : World) (K : (Int × Int) → World → Prop) (h : F136 p0_0 p0_1 p0_2 p0_3 p0_4 p0_5 p0_6 p0_7 p0_8 p0_9 p0_10 p0_11 p0_12 p0_13 p0_14 p0_15 p0_16 p0_17 p0_18 p0_19 p0_20 p0_21 p1 w0 K) : callC Tryz.prog 136 #[(V64 p0_0 p0_1 p0_2 p0_3 p0_4 p0_5 p0_6 p0_7 p0_8 p0_9 p0_10 p0_11 p0_12 p0_13 p0_14 p0_15 p0_16 p0_17 p0_18 p0_19 p0_20 p0_21), (Value.int .i64 p1)] (fun (r : Int × Int) => (Value.tuple #[(Value.int .i64 r.1), (Value.int .i64 r.2)])) w0 K := by
  unfold F136 at h
  refine calls_of_wpC Tryz.func136 rfl 19 rfl (by simp) ?_
  intro ρ hρ
  have e0 : ρ 0 = (V64 p0_0 p0_1 p0_2 p0_3 p0_4 p0_5 p0_6 p0_7 p0_8 p0_9 p0_10 p0_11 p0_12 p0_13 p0_14 p0_15 p0_16 p0_17 p0_18 p0_19 p0_20 p0_21) := hρ 0
  have e1 : ρ 1 = (Value.int .i64 p1) := hρ 1
  clear hρ
  refine wpC_seq ?_
  refine wpC_region ?_
  obtain ⟨b9, hb9⟩ : ∃ u, u = w0.heap.size := ⟨_, rfl⟩
  obtain ⟨w1, hw9⟩ : ∃ u, u = w0.alloc (.cells (A64 p0_0 p0_1 p0_2 p0_3 p0_4 p0_5 p0_6 p0_7 p0_8 p0_9 p0_10 p0_11 p0_12 p0_13 p0_14 p0_15 p0_16 p0_17 p0_18 p0_19 p0_20 p0_21) 65) := ⟨_, rfl⟩
  replace h := h b9 w1 hb9 hw9
  refine rv (Value.pointer (some (Addr.mk b9 0 none))) w1 rfl rfl rfl ((x_box (v := (V64 p0_0 p0_1 p0_2 p0_3 p0_4 p0_5 p0_6 p0_7 p0_8 p0_9 p0_10 p0_11 p0_12 p0_13 p0_14 p0_15 p0_16 p0_17 p0_18 p0_19 p0_20 p0_21)) rfl e0).trans (by rw [hb9, hw9]; rfl)) ?_
  refine rv (Value.int .i64 0) w1 rfl rfl rfl (x_assign rfl rfl) ?_
  refine rv (Value.int .i64 0) w1 rfl rfl rfl (x_assign rfl rfl) ?_
  refine wpR_nil ?_
  refine wpC_seq ?_
  refine wpC_seq ?_
  refine wpC_cut (fun ρ => ρ 1 = (Value.int .i64 p1) ∧ ρ 2 = (Value.pointer (some (Addr.mk b9 0 none))) ∧ True) ⟨e1, rfl, trivial⟩ ?_
  rintro ρ ⟨e1, e2, -⟩
  obtain ⟨J11, h, hk⟩ := h
  refine wpC_drawJ (by kernel_rfl) (fun (x : Bool) ρ => ρ 14 = (Value.bool x) ∧ ρ 1 = (Value.int .i64 p1) ∧ ρ 2 = (Value.pointer (some (Addr.mk b9 0 none))) ∧ True) J11 ?_ ?_
  · clear hk
    unfold tk at h
    generalize w1.drew = w2 at h ⊢
    refine wpD_take (v := (Value.int .i64 p1)) 0 (fun _ => True) rfl (by kernel_rfl) (by kernel_rfl) (by kernel_rfl) rfl rfl rfl trivial (fun w _ => (x_move (v := (Value.int .i64 p1)) rfl e1)) ?_
    refine wpD_take (v := (Value.bool (decide (0 < p1)))) 1 (fun _ => True) rfl (by kernel_rfl) (by kernel_rfl) (by kernel_rfl) rfl rfl rfl trivial (fun w _ => (x_gtr rfl rfl rfl)) ?_
    refine wpD_take (v := (Value.bool (decide (0 < p1)))) 2 (fun _ => True) rfl (by kernel_rfl) (by kernel_rfl) (by kernel_rfl) rfl rfl rfl trivial (fun w _ => (x_move (v := (Value.bool (decide (0 < p1)))) rfl rfl)) ?_
    rcases Bool.eq_false_or_eq_true (decide (0 < p1)) with hc12 | hc12
    · replace h := h.1 hc12
      refine wpD_take (v := (Value.pointer (some ((Addr.mk b9 0 none).add 18)))) 3 (fun _ => True) rfl (by kernel_rfl) (by kernel_rfl) (by kernel_rfl) (wantG rfl rfl rfl hc12) rfl rfl trivial (fun w _ => (x_fieldAddr rfl e2 FA_65_18)) ?_
      obtain ⟨x13, q13, h⟩ := h
      refine wpD_take (v := (Value.int .i64 x13)) 4 (fun w => w.cell? ((Addr.mk b9 0 none).add 18) = some (Value.int .i64 x13)) rfl (by kernel_rfl) (by kernel_rfl) (by kernel_rfl) (wantG rfl rfl rfl hc12) rfl rfl q13 (fun w q13 => (x_load1 rfl rfl SH_3 q13)) ?_
      refine wpD_take (v := (Value.int .i64 p1)) 5 (fun _ => True) rfl (by kernel_rfl) (by kernel_rfl) (by kernel_rfl) (wantG rfl rfl rfl hc12) rfl rfl trivial (fun w _ => (x_move (v := (Value.int .i64 p1)) rfl e1)) ?_
      obtain ⟨q14, h⟩ := h
      refine wpD_take (v := (Value.int .i64 (IntKind.i64.wrap ((4503599627370496 : Int).tdiv p1)))) 6 (fun _ => True) rfl (by kernel_rfl) (by kernel_rfl) (by kernel_rfl) (wantG rfl rfl rfl hc12) rfl rfl trivial (fun w _ => (x_quo rfl rfl rfl q14)) ?_
      refine wpD_take (v := (Value.bool (decide ((IntKind.i64.wrap ((4503599627370496 : Int).tdiv p1)) < x13)))) 7 (fun _ => True) rfl (by kernel_rfl) (by kernel_rfl) (by kernel_rfl) (wantG rfl rfl rfl hc12) rfl rfl trivial (fun w _ => (x_gtr rfl rfl rfl)) ?_
      refine wpD_take (v := (Value.bool (decide ((IntKind.i64.wrap ((4503599627370496 : Int).tdiv p1)) < x13)))) 8 (fun _ => True) rfl (by kernel_rfl) (by kernel_rfl) (by kernel_rfl) rfl rfl rfl trivial (fun w _ => (x_pickT (v := (Value.bool (decide ((IntKind.i64.wrap ((4503599627370496 : Int).tdiv p1)) < x13)))) rfl rfl hc12 rfl)) ?_
      exact wpD_done (by kernel_rfl) ⟨decide ((IntKind.i64.wrap ((4503599627370496 : Int).tdiv p1)) < x13), ⟨rfl, e1, e2, trivial⟩, h⟩
    · replace h := h.2 hc12
      refine wpD_pass 3 rfl (by kernel_rfl) (by kernel_rfl) (by kernel_rfl) (wantN rfl rfl rfl hc12) rfl rfl ?_
      refine wpD_pass 4 rfl (by kernel_rfl) (by kernel_rfl) (by kernel_rfl) (wantN rfl rfl rfl hc12) rfl rfl ?_
      refine wpD_pass 5 rfl (by kernel_rfl) (by kernel_rfl) (by kernel_rfl) (wantN rfl rfl rfl hc12) rfl rfl ?_
      refine wpD_pass 6 rfl (by kernel_rfl) (by kernel_rfl) (by kernel_rfl) (wantN rfl rfl rfl hc12) rfl rfl ?_
      refine wpD_pass 7 rfl (by kernel_rfl) (by kernel_rfl) (by kernel_rfl) (wantN rfl rfl rfl hc12) rfl rfl ?_
      refine wpD_take (v := (Value.bool false)) 8 (fun _ => True) rfl (by kernel_rfl) (by kernel_rfl) (by kernel_rfl) rfl rfl rfl trivial (fun w _ => (x_pickF (v := (Value.bool false)) rfl rfl hc12 rfl)) ?_
      exact wpD_done (by kernel_rfl) ⟨false, ⟨rfl, e1, e2, trivial⟩, h⟩
  clear h
  rintro l15 ρ w3 ⟨e14, e1, e2, -⟩ h
  replace h := hk l15 w3 h
  clear hk
  refine wpC_cond (b := l15) e14 (fun hc16 => ?_) (fun hc16 => ?_)
  · replace h := h.1 hc16
    refine wpC_seq ?_
    refine wpC_region ?_
    refine rv (Value.int .i64 0) w3 rfl rfl rfl (x_assign rfl rfl) ?_
    refine rv (Value.int .i64 3) w3 rfl rfl rfl (x_assign rfl rfl) ?_
    refine wpR_nil ?_
    refine wpC_ret ?_
    exact ⟨.inl rfl, fun a ha => ⟨_, results_rep2 rfl ha rfl rfl, (0, 3), rfl, h⟩⟩
  · replace h := h.2 hc16
    refine wpC_skip ?_
    refine wpC_seq ?_
    refine wpC_region ?_
    refine rv (Value.pointer (some ((Addr.mk b9 0 none).add 18))) w3 rfl rfl rfl (x_fieldAddr rfl e2 FA_65_18) ?_
    obtain ⟨x17, q17, h⟩ := h
    refine rv (Value.int .i64 x17) w3 rfl rfl rfl (x_load1 rfl rfl SH_3 q17) ?_
    refine rv (Value.int .i64 p1) w3 rfl rfl rfl (x_move rfl e1) ?_
    refine rv (Value.int .i64 (IntKind.i64.wrap (x17 * p1))) w3 rfl rfl rfl (x_mul rfl rfl rfl) ?_
    refine rv (Value.int .i64 (IntKind.i64.wrap (x17 * p1))) w3 rfl rfl rfl (x_assign rfl rfl) ?_
    refine rv (Value.int .i64 0) w3 rfl rfl rfl (x_assign rfl rfl) ?_
    refine wpR_nil ?_
    refine wpC_ret ?_
    exact ⟨.inl rfl, fun a ha => ⟨_, results_rep2 rfl ha rfl rfl, (IntKind.i64.wrap (x17 * p1), 0), rfl, h⟩⟩


end Go.Proofs.YtgbhghoppjfofaaGreat
