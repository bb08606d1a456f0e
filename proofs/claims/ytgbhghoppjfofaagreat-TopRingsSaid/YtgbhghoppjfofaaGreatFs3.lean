import Derived.Test.YtgbhghoppjfofaaGreatRows
import Derived.Test.YtgbhghoppjfofaaGreatFs1
import Derived.Test.YtgbhghoppjfofaaGreatDecRaw
namespace Go.Proofs.YtgbhghoppjfofaaGreat
open Go.Dec
set_option maxHeartbeats 400000
set_option maxRecDepth 100000

/-- (*link.Sender).Ack -/
def F24 (p0 : Option Addr) (p1 : Int) (w0 : World) (K : Int → World → Prop) : Prop :=
  jn (fun (J10 : Bool → World → Prop) => tk w0 fun w1 =>
    cnd (decide (p1 < 0))
      (
      J10 true w1
      )
      (
      nn p0 fun a12 =>
      ld (Value.int .i64) (a12.add 1) w1 fun x13 =>
      cnd (decide (x13 < p1))
        (
        J10 true w1
        )
        (
        nn p0 fun a15 =>
        ld (Value.int .i64) (a15.add 2) w1 fun x16 =>
        nn p0 fun a17 =>
        ld (Value.int .i64) (a17.add 0) w1 fun x18 =>
        J10 (decide ((IntKind.i64.wrap (x16 + x18)) < p1)) w1
        )
      )
  )
  fun l19 w2 =>
  cnd (l19)
    (
    K 1 w2
    )
    (
    nn p0 fun a21 =>
    ld (Value.int .i64) (a21.add 2) w2 fun x22 =>
    nn p0 fun a23 =>
    st (a23.add 2) [(Value.int .i64 (max x22 p1))] w2 fun w3 =>
    K 0 w3
    )
set_option maxRecDepth 100000 in
theorem D24 (p0 : Option Addr) (p1 : Int) (w0 : World) (K : Int → World → Prop) (h : F24 p0 p1 w0 K) : callC Tryz.prog 24 #[(Value.pointer p0), (Value.int .i64 p1)] (fun (r : Int) => (Value.int .i64 r)) w0 K := by
  unfold F24 at h
  refine calls_of_wpC Tryz.func24 rfl 37 rfl (by simp) ?_
  intro ρ hρ
  have e0 : ρ 0 = (Value.pointer p0) := hρ 0
  have e1 : ρ 1 = (Value.int .i64 p1) := hρ 1
  clear hρ
  refine wpC_seq ?_
  refine wpC_region ?_
  refine rv (Value.int .i64 0) w0 rfl rfl rfl (x_assign rfl rfl) ?_
  refine wpR_nil ?_
  refine wpC_seq ?_
  refine wpC_seq ?_
  refine wpC_cut (fun ρ => ρ 0 = (Value.pointer p0) ∧ ρ 1 = (Value.int .i64 p1) ∧ True) ⟨e0, e1, trivial⟩ ?_
  rintro ρ ⟨e0, e1, -⟩
  obtain ⟨J10, h, hk⟩ := h
  refine wpC_drawJ (by kernel_rfl) (fun (x : Bool) ρ => ρ 27 = (Value.bool x) ∧ ρ 0 = (Value.pointer p0) ∧ ρ 1 = (Value.int .i64 p1) ∧ True) J10 ?_ ?_
  · clear hk
    unfold tk at h
    generalize w0.drew = w1 at h ⊢
    refine wpD_take (v := (Value.int .i64 p1)) 0 (fun _ => True) rfl (by kernel_rfl) (by kernel_rfl) (by kernel_rfl) rfl rfl rfl trivial (fun w _ => (x_move (v := (Value.int .i64 p1)) rfl e1)) ?_
    refine wpD_take (v := (Value.bool (decide (p1 < 0)))) 1 (fun _ => True) rfl (by kernel_rfl) (by kernel_rfl) (by kernel_rfl) rfl rfl rfl trivial (fun w _ => (x_lss rfl rfl rfl)) ?_
    refine wpD_take (v := (Value.bool (decide (p1 < 0)))) 2 (fun _ => True) rfl (by kernel_rfl) (by kernel_rfl) (by kernel_rfl) rfl rfl rfl trivial (fun w _ => (x_move (v := (Value.bool (decide (p1 < 0)))) rfl rfl)) ?_
    rcases Bool.eq_false_or_eq_true (decide (p1 < 0)) with hc11 | hc11
    · replace h := h.1 hc11
      refine wpD_pass 3 rfl (by kernel_rfl) (by kernel_rfl) (by kernel_rfl) (wantN rfl rfl rfl hc11) rfl rfl ?_
      refine wpD_pass 4 rfl (by kernel_rfl) (by kernel_rfl) (by kernel_rfl) (wantN rfl rfl rfl hc11) rfl rfl ?_
      refine wpD_pass 5 rfl (by kernel_rfl) (by kernel_rfl) (by kernel_rfl) (wantN rfl rfl rfl hc11) rfl rfl ?_
      refine wpD_pass 6 rfl (by kernel_rfl) (by kernel_rfl) (by kernel_rfl) (wantN rfl rfl rfl hc11) rfl rfl ?_
      refine wpD_pass 7 rfl (by kernel_rfl) (by kernel_rfl) (by kernel_rfl) (wantN rfl rfl rfl hc11) rfl rfl ?_
      refine wpD_pass 8 rfl (by kernel_rfl) (by kernel_rfl) (by kernel_rfl) (wantN rfl rfl rfl hc11) rfl rfl ?_
      refine wpD_take (v := (Value.bool true)) 9 (fun _ => True) rfl (by kernel_rfl) (by kernel_rfl) (by kernel_rfl) rfl rfl rfl trivial (fun w _ => (x_pickT (v := (Value.bool true)) rfl rfl hc11 rfl)) ?_
      refine wpD_take (v := (Value.bool true)) 10 (fun _ => True) rfl (by kernel_rfl) (by kernel_rfl) (by kernel_rfl) rfl rfl rfl trivial (fun w _ => (x_move (v := (Value.bool true)) rfl rfl)) ?_
      refine wpD_pass 11 rfl (by kernel_rfl) (by kernel_rfl) (by kernel_rfl) (wantN rfl rfl rfl rfl) rfl rfl ?_
      refine wpD_pass 12 rfl (by kernel_rfl) (by kernel_rfl) (by kernel_rfl) (wantN rfl rfl rfl rfl) rfl rfl ?_
      refine wpD_pass 13 rfl (by kernel_rfl) (by kernel_rfl) (by kernel_rfl) (wantN rfl rfl rfl rfl) rfl rfl ?_
      refine wpD_pass 14 rfl (by kernel_rfl) (by kernel_rfl) (by kernel_rfl) (wantN rfl rfl rfl rfl) rfl rfl ?_
      refine wpD_pass 15 rfl (by kernel_rfl) (by kernel_rfl) (by kernel_rfl) (wantN rfl rfl rfl rfl) rfl rfl ?_
      refine wpD_pass 16 rfl (by kernel_rfl) (by kernel_rfl) (by kernel_rfl) (wantN rfl rfl rfl rfl) rfl rfl ?_
      refine wpD_pass 17 rfl (by kernel_rfl) (by kernel_rfl) (by kernel_rfl) (wantN rfl rfl rfl rfl) rfl rfl ?_
      refine wpD_pass 18 rfl (by kernel_rfl) (by kernel_rfl) (by kernel_rfl) (wantN rfl rfl rfl rfl) rfl rfl ?_
      refine wpD_pass 19 rfl (by kernel_rfl) (by kernel_rfl) (by kernel_rfl) (wantN rfl rfl rfl rfl) rfl rfl ?_
      refine wpD_pass 20 rfl (by kernel_rfl) (by kernel_rfl) (by kernel_rfl) (wantN rfl rfl rfl rfl) rfl rfl ?_
      refine wpD_pass 21 rfl (by kernel_rfl) (by kernel_rfl) (by kernel_rfl) (wantN rfl rfl rfl rfl) rfl rfl ?_
      refine wpD_take (v := (Value.bool true)) 22 (fun _ => True) rfl (by kernel_rfl) (by kernel_rfl) (by kernel_rfl) rfl rfl rfl trivial (fun w _ => (x_pickT (v := (Value.bool true)) rfl rfl rfl rfl)) ?_
      exact wpD_done (by kernel_rfl) ⟨true, ⟨rfl, e0, e1, trivial⟩, h⟩
    · replace h := h.2 hc11
      refine wpD_take (v := (Value.int .i64 p1)) 3 (fun _ => True) rfl (by kernel_rfl) (by kernel_rfl) (by kernel_rfl) (wantG rfl rfl rfl hc11) rfl rfl trivial (fun w _ => (x_move (v := (Value.int .i64 p1)) rfl e1)) ?_
      refine wpD_take (v := (Value.pointer p0)) 4 (fun _ => True) rfl (by kernel_rfl) (by kernel_rfl) (by kernel_rfl) (wantG rfl rfl rfl hc11) rfl rfl trivial (fun w _ => (x_move (v := (Value.pointer p0)) rfl e0)) ?_
      obtain ⟨a12, q12, h⟩ := h
      refine wpD_take (v := (Value.pointer (some a12))) 5 (fun _ => True) rfl (by kernel_rfl) (by kernel_rfl) (by kernel_rfl) (wantG rfl rfl rfl hc11) rfl rfl trivial (fun w _ => (x_nilCheck rfl rfl q12)) ?_
      refine wpD_take (v := (Value.pointer (some (a12.add 1)))) 6 (fun _ => True) rfl (by kernel_rfl) (by kernel_rfl) (by kernel_rfl) (wantG rfl rfl rfl hc11) rfl rfl trivial (fun w _ => (x_fieldAddr rfl rfl FA_77_1)) ?_
      obtain ⟨x13, q13, h⟩ := h
      refine wpD_take (v := (Value.int .i64 x13)) 7 (fun w => w.cell? (a12.add 1) = some (Value.int .i64 x13)) rfl (by kernel_rfl) (by kernel_rfl) (by kernel_rfl) (wantG rfl rfl rfl hc11) rfl rfl q13 (fun w q13 => (x_load1 rfl rfl SH_3 q13)) ?_
      refine wpD_take (v := (Value.bool (decide (x13 < p1)))) 8 (fun _ => True) rfl (by kernel_rfl) (by kernel_rfl) (by kernel_rfl) (wantG rfl rfl rfl hc11) rfl rfl trivial (fun w _ => (x_gtr rfl rfl rfl)) ?_
      refine wpD_take (v := (Value.bool (decide (x13 < p1)))) 9 (fun _ => True) rfl (by kernel_rfl) (by kernel_rfl) (by kernel_rfl) rfl rfl rfl trivial (fun w _ => (x_pickF (v := (Value.bool (decide (x13 < p1)))) rfl rfl hc11 rfl)) ?_
      refine wpD_take (v := (Value.bool (decide (x13 < p1)))) 10 (fun _ => True) rfl (by kernel_rfl) (by kernel_rfl) (by kernel_rfl) rfl rfl rfl trivial (fun w _ => (x_move (v := (Value.bool (decide (x13 < p1)))) rfl rfl)) ?_
      rcases Bool.eq_false_or_eq_true (decide (x13 < p1)) with hc14 | hc14
      · replace h := h.1 hc14
        refine wpD_pass 11 rfl (by kernel_rfl) (by kernel_rfl) (by kernel_rfl) (wantN rfl rfl rfl hc14) rfl rfl ?_
        refine wpD_pass 12 rfl (by kernel_rfl) (by kernel_rfl) (by kernel_rfl) (wantN rfl rfl rfl hc14) rfl rfl ?_
        refine wpD_pass 13 rfl (by kernel_rfl) (by kernel_rfl) (by kernel_rfl) (wantN rfl rfl rfl hc14) rfl rfl ?_
        refine wpD_pass 14 rfl (by kernel_rfl) (by kernel_rfl) (by kernel_rfl) (wantN rfl rfl rfl hc14) rfl rfl ?_
        refine wpD_pass 15 rfl (by kernel_rfl) (by kernel_rfl) (by kernel_rfl) (wantN rfl rfl rfl hc14) rfl rfl ?_
        refine wpD_pass 16 rfl (by kernel_rfl) (by kernel_rfl) (by kernel_rfl) (wantN rfl rfl rfl hc14) rfl rfl ?_
        refine wpD_pass 17 rfl (by kernel_rfl) (by kernel_rfl) (by kernel_rfl) (wantN rfl rfl rfl hc14) rfl rfl ?_
        refine wpD_pass 18 rfl (by kernel_rfl) (by kernel_rfl) (by kernel_rfl) (wantN rfl rfl rfl hc14) rfl rfl ?_
        refine wpD_pass 19 rfl (by kernel_rfl) (by kernel_rfl) (by kernel_rfl) (wantN rfl rfl rfl hc14) rfl rfl ?_
        refine wpD_pass 20 rfl (by kernel_rfl) (by kernel_rfl) (by kernel_rfl) (wantN rfl rfl rfl hc14) rfl rfl ?_
        refine wpD_pass 21 rfl (by kernel_rfl) (by kernel_rfl) (by kernel_rfl) (wantN rfl rfl rfl hc14) rfl rfl ?_
        refine wpD_take (v := (Value.bool true)) 22 (fun _ => True) rfl (by kernel_rfl) (by kernel_rfl) (by kernel_rfl) rfl rfl rfl trivial (fun w _ => (x_pickT (v := (Value.bool true)) rfl rfl hc14 rfl)) ?_
        exact wpD_done (by kernel_rfl) ⟨true, ⟨rfl, e0, e1, trivial⟩, h⟩
      · replace h := h.2 hc14
        refine wpD_take (v := (Value.int .i64 p1)) 11 (fun _ => True) rfl (by kernel_rfl) (by kernel_rfl) (by kernel_rfl) (wantG rfl rfl rfl hc14) rfl rfl trivial (fun w _ => (x_move (v := (Value.int .i64 p1)) rfl e1)) ?_
        refine wpD_take (v := (Value.pointer p0)) 12 (fun _ => True) rfl (by kernel_rfl) (by kernel_rfl) (by kernel_rfl) (wantG rfl rfl rfl hc14) rfl rfl trivial (fun w _ => (x_move (v := (Value.pointer p0)) rfl e0)) ?_
        obtain ⟨a15, q15, h⟩ := h
        refine wpD_take (v := (Value.pointer (some a15))) 13 (fun _ => True) rfl (by kernel_rfl) (by kernel_rfl) (by kernel_rfl) (wantG rfl rfl rfl hc14) rfl rfl trivial (fun w _ => (x_nilCheck rfl rfl q15)) ?_
        refine wpD_take (v := (Value.pointer (some (a15.add 2)))) 14 (fun _ => True) rfl (by kernel_rfl) (by kernel_rfl) (by kernel_rfl) (wantG rfl rfl rfl hc14) rfl rfl trivial (fun w _ => (x_fieldAddr rfl rfl FA_77_2)) ?_
        obtain ⟨x16, q16, h⟩ := h
        refine wpD_take (v := (Value.int .i64 x16)) 15 (fun w => w.cell? (a15.add 2) = some (Value.int .i64 x16)) rfl (by kernel_rfl) (by kernel_rfl) (by kernel_rfl) (wantG rfl rfl rfl hc14) rfl rfl q16 (fun w q16 => (x_load1 rfl rfl SH_3 q16)) ?_
        refine wpD_take (v := (Value.pointer p0)) 16 (fun _ => True) rfl (by kernel_rfl) (by kernel_rfl) (by kernel_rfl) (wantG rfl rfl rfl hc14) rfl rfl trivial (fun w _ => (x_move (v := (Value.pointer p0)) rfl e0)) ?_
        obtain ⟨a17, q17, h⟩ := h
        refine wpD_take (v := (Value.pointer (some a17))) 17 (fun _ => True) rfl (by kernel_rfl) (by kernel_rfl) (by kernel_rfl) (wantG rfl rfl rfl hc14) rfl rfl trivial (fun w _ => (x_nilCheck rfl rfl q17)) ?_
        refine wpD_take (v := (Value.pointer (some (a17.add 0)))) 18 (fun _ => True) rfl (by kernel_rfl) (by kernel_rfl) (by kernel_rfl) (wantG rfl rfl rfl hc14) rfl rfl trivial (fun w _ => (x_fieldAddr rfl rfl FA_77_0)) ?_
        obtain ⟨x18, q18, h⟩ := h
        refine wpD_take (v := (Value.int .i64 x18)) 19 (fun w => w.cell? (a17.add 0) = some (Value.int .i64 x18)) rfl (by kernel_rfl) (by kernel_rfl) (by kernel_rfl) (wantG rfl rfl rfl hc14) rfl rfl q18 (fun w q18 => (x_load1 rfl rfl SH_3 q18)) ?_
        refine wpD_take (v := (Value.int .i64 (IntKind.i64.wrap (x16 + x18)))) 20 (fun _ => True) rfl (by kernel_rfl) (by kernel_rfl) (by kernel_rfl) (wantG rfl rfl rfl hc14) rfl rfl trivial (fun w _ => (x_add rfl rfl rfl)) ?_
        refine wpD_take (v := (Value.bool (decide ((IntKind.i64.wrap (x16 + x18)) < p1)))) 21 (fun _ => True) rfl (by kernel_rfl) (by kernel_rfl) (by kernel_rfl) (wantG rfl rfl rfl hc14) rfl rfl trivial (fun w _ => (x_gtr rfl rfl rfl)) ?_
        refine wpD_take (v := (Value.bool (decide ((IntKind.i64.wrap (x16 + x18)) < p1)))) 22 (fun _ => True) rfl (by kernel_rfl) (by kernel_rfl) (by kernel_rfl) rfl rfl rfl trivial (fun w _ => (x_pickF (v := (Value.bool (decide ((IntKind.i64.wrap (x16 + x18)) < p1)))) rfl rfl hc14 rfl)) ?_
        exact wpD_done (by kernel_rfl) ⟨decide ((IntKind.i64.wrap (x16 + x18)) < p1), ⟨rfl, e0, e1, trivial⟩, h⟩
  clear h
  rintro l19 ρ w2 ⟨e27, e0, e1, -⟩ h
  replace h := hk l19 w2 h
  clear hk
  refine wpC_cond (b := l19) e27 (fun hc20 => ?_) (fun hc20 => ?_)
  · replace h := h.1 hc20
    refine wpC_seq ?_
    refine wpC_region ?_
    refine rv (Value.int .i64 1) w2 rfl rfl rfl (x_assign rfl rfl) ?_
    refine wpR_nil ?_
    refine wpC_ret ?_
    exact ⟨.inl rfl, fun a ha => ⟨_, results_rep1 rfl ha rfl, 1, rfl, h⟩⟩
  · replace h := h.2 hc20
    refine wpC_skip ?_
    refine wpC_seq ?_
    refine wpC_region ?_
    refine rv (Value.pointer p0) w2 rfl rfl rfl (x_move rfl e0) ?_
    refine rv (Value.pointer p0) w2 rfl rfl rfl (x_move rfl e0) ?_
    obtain ⟨a21, q21, h⟩ := h
    refine rv (Value.pointer (some a21)) w2 rfl rfl rfl (x_nilCheck rfl rfl q21) ?_
    refine rv (Value.pointer (some (a21.add 2))) w2 rfl rfl rfl (x_fieldAddr rfl rfl FA_77_2) ?_
    obtain ⟨x22, q22, h⟩ := h
    refine rv (Value.int .i64 x22) w2 rfl rfl rfl (x_load1 rfl rfl SH_3 q22) ?_
    refine rv (Value.int .i64 p1) w2 rfl rfl rfl (x_move rfl e1) ?_
    refine rv (Value.int .i64 (max x22 p1)) w2 rfl rfl rfl (x_max rfl rfl rfl) ?_
    obtain ⟨a23, q23, h⟩ := h
    refine rv (Value.pointer (some a23)) w2 rfl rfl rfl (x_nilCheck rfl rfl q23) ?_
    refine rv (Value.pointer (some (a23.add 2))) w2 rfl rfl rfl (x_fieldAddr rfl rfl FA_77_2) ?_
    obtain ⟨q24, h⟩ := h
    obtain ⟨w3, hw24⟩ : ∃ u, u = setAll w2 (a23.add 2) [(Value.int .i64 (max x22 p1))] 0 := ⟨_, rfl⟩
    replace h := h w3 hw24
    refine wpR_skp (w' := w3) rfl rfl ((x_store (v := (Value.int .i64 (max x22 p1))) rfl rfl rfl SZ_3 (ones (by rfl)) q24).trans (by rw [hw24]; rfl)) ?_
    refine wpR_nil ?_
    refine wpC_seq ?_
    refine wpC_cut (fun ρ => True) trivial ?_
    rintro ρ -
    refine wpC_region ?_
    refine rv (Value.int .i64 0) w3 rfl rfl rfl (x_assign rfl rfl) ?_
    refine wpR_nil ?_
    refine wpC_ret ?_
    exact ⟨.inl rfl, fun a ha => ⟨_, results_rep1 rfl ha rfl, 0, rfl, h⟩⟩

/-- ring.valid -/
def F33 (p0 : Sl) (p1 : Int) (w0 : World) (K : Bool → World → Prop) : Prop :=
  nw 3 #[(Value.int .i64 p1)] w0 fun b9 w1 =>
  ld (Value.int .i64) (Addr.mk b9 0 none) w1 fun x10 =>
  jp (fun J11 => cnd (decide (1 ≤ x10))
    (
    ld (Value.int .i64) (Addr.mk b9 0 none) w1 fun x13 =>
    J11 (decide (x13 ≤ 12))
    )
    (
    J11 false
    ))
  fun c14 =>
  jn (fun J17 => cnd (c14 && (decide ((p0.len : Int) ≤ 200)))
    (
    callC Tryz.prog 58 #[(Sl.v p0), (Value.func (.func 59) #[] (List.toArray [(Value.pointer (some (Addr.mk b9 0 none)))]))] (fun (r : Bool) => (Value.bool r)) w1 fun r19 w2 =>
    J17 (!r19) w2
    )
    (
    J17 false w1
    ))
  fun c20 w3 =>
  K c20 w3
set_option maxRecDepth 100000 in
theorem D33 (p0 : Sl) (p1 : Int) (w0 : World) (K : Bool → World → Prop) (h : F33 p0 p1 w0 K) : callC Tryz.prog 33 #[(Sl.v p0), (Value.int .i64 p1)] (fun (r : Bool) => (Value.bool r)) w0 K := by
  unfold F33 at h
  refine calls_of_wpC Tryz.func33 rfl 22 rfl (by simp) ?_
  intro ρ hρ
  have e0 : ρ 0 = (Sl.v p0) := hρ 0
  have e1 : ρ 1 = (Value.int .i64 p1) := hρ 1
  clear hρ
  refine wpC_seq ?_
  refine wpC_region ?_
  obtain ⟨b9, hb9⟩ : ∃ u, u = w0.heap.size := ⟨_, rfl⟩
  obtain ⟨w1, hw9⟩ : ∃ u, u = w0.alloc (.cells #[(Value.int .i64 p1)] 3) := ⟨_, rfl⟩
  replace h := h b9 w1 hb9 hw9
  refine rv (Value.pointer (some (Addr.mk b9 0 none))) w1 rfl rfl rfl ((x_box (v := (Value.int .i64 p1)) rfl e1).trans (by rw [hb9, hw9]; rfl)) ?_
  refine rv (Value.bool false) w1 rfl rfl rfl (x_assign rfl rfl) ?_
  refine wpR_nil ?_
  refine wpC_seq ?_
  refine wpC_cut (fun ρ => ρ 0 = (Sl.v p0) ∧ ρ 3 = (Value.pointer (some (Addr.mk b9 0 none))) ∧ True) ⟨e0, rfl, trivial⟩ ?_
  rintro ρ ⟨e0, e3, -⟩
  refine wpC_region ?_
  obtain ⟨x10, q10, h⟩ := h
  refine rv (Value.int .i64 x10) w1 rfl rfl rfl (x_load1 rfl e3 SH_3 q10) ?_
  refine rv (Value.bool (decide (1 ≤ x10))) w1 rfl rfl rfl (x_geq rfl rfl rfl) ?_
  refine rv (Value.bool (decide (1 ≤ x10))) w1 rfl rfl rfl (x_move rfl rfl) ?_
  obtain ⟨J11, h, hk⟩ := h
  refine wpR_joinJ 3 (fun x ρ => ρ 10 = Value.bool x ∧ ρ 0 = (Sl.v p0) ∧ ρ 3 = (Value.pointer (some (Addr.mk b9 0 none))) ∧ True) (fun x w => J11 x ∧ w1 = w) ?_ ?_
  · clear hk
    rcases Bool.eq_false_or_eq_true (decide (1 ≤ x10)) with hc12 | hc12
    · replace h := h.1 hc12
      obtain ⟨x13, q13, h⟩ := h
      refine wpR_val (v := (Value.int .i64 x13)) (w' := w1) (wantG rfl rfl rfl hc12) rfl rfl (x_load1 rfl e3 SH_3 q13) ?_
      refine wpR_val (v := (Value.bool (decide (x13 ≤ 12)))) (w' := w1) (wantG rfl rfl rfl hc12) rfl rfl (x_leq rfl rfl rfl) ?_
      refine rv (Value.bool (decide (x13 ≤ 12))) w1 rfl rfl rfl (x_pickT (v := (Value.bool (decide (x13 ≤ 12)))) rfl rfl hc12 rfl) ?_
      refine wpR_nil ?_
      exact ⟨decide (x13 ≤ 12), ⟨rfl, e0, e3, trivial⟩, h, rfl⟩
    · replace h := h.2 hc12
      refine wpR_pass (wantN rfl rfl rfl hc12) rfl rfl ?_
      refine wpR_pass (wantN rfl rfl rfl hc12) rfl rfl ?_
      refine rv (Value.bool false) w1 rfl rfl rfl (x_pickF (v := (Value.bool false)) rfl rfl hc12 rfl) ?_
      refine wpR_nil ?_
      exact ⟨false, ⟨rfl, e0, e3, trivial⟩, h, rfl⟩
  clear h
  rintro c14 ρ wj ⟨e10, e0, e3, -⟩ ⟨h, rfl⟩
  replace h := hk c14 h
  clear hk
  refine rv (Value.bool c14) w1 rfl rfl rfl (x_move rfl e10) ?_
  refine wpR_joinJ 4 (fun (_ : Unit) ρ => ρ 15 = Value.bool (c14 && (decide ((p0.len : Int) ≤ 200))) ∧ ρ 0 = (Sl.v p0) ∧ ρ 3 = (Value.pointer (some (Addr.mk b9 0 none))) ∧ True) (fun _ w => w1 = w) ?_ ?_
  · clear h
    rcases Bool.eq_false_or_eq_true (c14) with hc16 | hc16
    · skip
      refine wpR_val (v := (Sl.v p0)) (w' := w1) (wantG rfl rfl rfl hc16) rfl rfl (x_move rfl e0) ?_
      refine wpR_val (v := (Value.int .i64 (p0.len : Int))) (w' := w1) (wantG rfl rfl rfl hc16) rfl rfl (x_lenS (s := p0) rfl rfl isSliceT_47) ?_
      refine wpR_val (v := (Value.bool (decide ((p0.len : Int) ≤ 200)))) (w' := w1) (wantG rfl rfl rfl hc16) rfl rfl (x_leq rfl rfl rfl) ?_
      refine rv (Value.bool (decide ((p0.len : Int) ≤ 200))) w1 rfl rfl rfl (x_pickT (v := (Value.bool (decide ((p0.len : Int) ≤ 200)))) rfl rfl hc16 rfl) ?_
      refine wpR_nil ?_
      exact ⟨(), ⟨(by rw [hc16]; rfl), e0, e3, trivial⟩, rfl⟩
    · skip
      refine wpR_pass (wantN rfl rfl rfl hc16) rfl rfl ?_
      refine wpR_pass (wantN rfl rfl rfl hc16) rfl rfl ?_
      refine wpR_pass (wantN rfl rfl rfl hc16) rfl rfl ?_
      refine rv (Value.bool false) w1 rfl rfl rfl (x_pickF (v := (Value.bool false)) rfl rfl hc16 rfl) ?_
      refine wpR_nil ?_
      exact ⟨(), ⟨(by rw [hc16]; rfl), e0, e3, trivial⟩, rfl⟩
  rintro _ ρ wj ⟨e15, e0, e3, -⟩ rfl
  refine rv (Value.bool (c14 && (decide ((p0.len : Int) ≤ 200)))) w1 rfl rfl rfl (x_move rfl e15) ?_
  obtain ⟨J17, h, hk⟩ := h
  refine wpR_joinJ 5 (fun x ρ => ρ 21 = Value.bool x ∧ True) (J17) ?_ ?_
  · clear hk
    rcases Bool.eq_false_or_eq_true (c14 && (decide ((p0.len : Int) ≤ 200))) with hc18 | hc18
    · replace h := h.1 hc18
      refine wpR_val (v := (Sl.v p0)) (w' := w1) (wantG rfl rfl rfl hc18) rfl rfl (x_move rfl e0) ?_
      refine wpR_val (v := (Value.func (.func 59) #[] (List.toArray [(Value.pointer (some (Addr.mk b9 0 none)))]))) (w' := w1) (wantG rfl rfl rfl hc18) rfl rfl (x_makeFunc (vs := [(Value.pointer (some (Addr.mk b9 0 none)))]) rfl (mapl_cons e3 mapl_nil)) ?_
      refine wpR_enter (wantG rfl rfl rfl hc18) rfl rfl (x_call (vs := [(Sl.v p0), (Value.func (.func 59) #[] (List.toArray [(Value.pointer (some (Addr.mk b9 0 none)))]))]) rfl rfl (mapl_cons rfl (mapl_cons rfl mapl_nil)) Tryz.func58 NN_58 NB_58) (Calls.mono h ?_)
      rintro _ w2 ⟨r19, rfl, h⟩
      refine ⟨_, rfl, ?_⟩
      refine wpR_val (v := (Value.bool (!r19))) (w' := w2) (wantG rfl rfl rfl hc18) rfl rfl (x_not rfl rfl) ?_
      refine rv (Value.bool (!r19)) w2 rfl rfl rfl (x_pickT (v := (Value.bool (!r19))) rfl rfl hc18 rfl) ?_
      refine wpR_nil ?_
      exact ⟨!r19, ⟨rfl, trivial⟩, h⟩
    · replace h := h.2 hc18
      refine wpR_pass (wantN rfl rfl rfl hc18) rfl rfl ?_
      refine wpR_pass (wantN rfl rfl rfl hc18) rfl rfl ?_
      refine wpR_pass (wantN rfl rfl rfl hc18) rfl rfl ?_
      refine wpR_pass (wantN rfl rfl rfl hc18) rfl rfl ?_
      refine rv (Value.bool false) w1 rfl rfl rfl (x_pickF (v := (Value.bool false)) rfl rfl hc18 rfl) ?_
      refine wpR_nil ?_
      exact ⟨false, ⟨rfl, trivial⟩, h⟩
  clear h
  rintro c20 ρ w3 ⟨e21, -⟩ h
  replace h := hk c20 w3 h
  clear hk
  refine rv (Value.bool c20) w3 rfl rfl rfl (x_assign rfl e21) ?_
  refine wpR_nil ?_
  refine wpC_ret ?_
  exact ⟨.inl rfl, fun a ha => ⟨_, results_rep1 rfl ha rfl, c20, rfl, h⟩⟩

/-- ring.path -/
def F34 (p0 : Sl) (p1 : Sl) (p2 : Int) (p3 : Int) (w0 : World) (K : (Sl × Bool) → World → Prop) : Prop :=
  rn Tryz.prog (Instr.makeMap 116 none) (fun (r : (Option Nat)) => (Value.map r)) w0 fun r9 w1 =>
  rn0 Tryz.prog (Instr.mapUpdate 116 (Value.map r9) (Value.int .i64 p2) (Value.int .i64 (-1))) w1 fun w2 =>
  nw 3 #[(Value.int .i64 p2)] w2 fun b11 w3 =>
  lp (fun (next12 : Sl → World → Prop) l12 w4 =>
    cnd (decide (0 < (l12.len : Int)))
      (
      ix l12 0 1 fun p14 =>
      ld (Value.int .i64) p14 w4 fun x15 =>
      rn Tryz.prog (Instr.sliceAt 39 (Sl.v l12) (some (Value.int .i64 1)) none none) (fun (r : Sl) => (Sl.v r)) w4 fun r16 w5 =>
      lp (fun (next17 : (Sl × Int) → World → Prop) l17 w6 =>
        cnd (decide (l17.2 < (p1.len : Int)))
          (
          jn (fun (J19 : Sl → World → Prop) =>
            ix p1 l17.2 1 fun p21 =>
            ld (Value.int .i64) p21 w6 fun x22 =>
            ix p0 x22 3 fun p23 =>
            ld (Value.int .i64) (p23.add 0) w6 fun x24 =>
            ld (Value.int .i64) (p23.add 1) w6 fun x25 =>
            ld Value.bool (p23.add 2) w6 fun x26 =>
            nw 56 #[(Value.int .i64 0), (Value.int .i64 0), (Value.bool false)] w6 fun b27 w8 =>
            st (Addr.mk b27 0 none) [(Value.int .i64 x24), (Value.int .i64 x25), (Value.bool x26)] w8 fun w9 =>
            ld (Value.int .i64) ((Addr.mk b27 0 none).add 1) w9 fun x29 =>
            rn Tryz.prog (Instr.lookup 116 (Value.map r9) (Value.int .i64 x29) true) (fun (r : Int × Bool) => (Value.tuple #[(Value.int .i64 r.1), (Value.bool r.2)])) w9 fun r30 w10 =>
            ld (Value.int .i64) ((Addr.mk b27 0 none).add 0) w10 fun x31 =>
            cnd ((decide (x31 = x15)) && (!r30.2))
              (
              ld (Value.int .i64) ((Addr.mk b27 0 none).add 1) w10 fun x35 =>
              rn0 Tryz.prog (Instr.mapUpdate 116 (Value.map r9) (Value.int .i64 x35) (Value.int .i64 x22)) w10 fun w11 =>
              ld (Value.int .i64) ((Addr.mk b27 0 none).add 1) w11 fun x37 =>
              nw 3 #[(Value.int .i64 x37)] w11 fun b38 w12 =>
              rn Tryz.prog (Builtin.append_ #[39, 39] 39 #[Sl.v l17.1, Sl.v (⟨some ⟨b38, 0, none⟩, 1, 1⟩ : Sl)]) Sl.v w12 fun r39 w13 =>
              J19 r39 w13
              )
              (
              J19 l17.1 w10
              )
          )
          fun l20 w7 =>
          next17 (l20, IntKind.i64.wrap (l17.2 + 1)) w7
          )
          (
          next12 l17.1 w6
          )
      ) (r16, 0) w5
      )
      (
      rn Tryz.prog (Instr.lookup 116 (Value.map r9) (Value.int .i64 p3) true) (fun (r : Int × Bool) => (Value.tuple #[(Value.int .i64 r.1), (Value.bool r.2)])) w4 fun r40 w14 =>
      cnd (!r40.2)
        (
        K (Sl.nil, false) w14
        )
        (
        lp (fun (next42 : (Sl × Int) → World → Prop) l42 w15 =>
          cnd (!decide (l42.2 = p2))
            (
            rn Tryz.prog (Instr.lookup 116 (Value.map r9) (Value.int .i64 l42.2) false) (fun (r : Int) => (Value.int .i64 r)) w15 fun r44 w16 =>
            nw 3 #[(Value.int .i64 r44)] w16 fun b45 w17 =>
            rn Tryz.prog (Builtin.append_ #[39, 39] 39 #[Sl.v l42.1, Sl.v (⟨some ⟨b45, 0, none⟩, 1, 1⟩ : Sl)]) Sl.v w17 fun r46 w18 =>
            rn Tryz.prog (Instr.lookup 116 (Value.map r9) (Value.int .i64 l42.2) false) (fun (r : Int) => (Value.int .i64 r)) w18 fun r47 w19 =>
            ix p0 r47 3 fun p48 =>
            ld (Value.int .i64) (p48.add 0) w19 fun x49 =>
            next42 (r46, x49) w19
            )
            (
            callC Tryz.prog 60 #[(Sl.v l42.1)] (fun (_ : Unit) => (Value.tuple #[])) w15 fun _r50 w20 =>
            K (l42.1, true) w20
            )
        ) (Sl.nil, p3) w14
        )
      )
  ) (⟨some ⟨b11, 0, none⟩, 1, 1⟩ : Sl) w3
set_option maxRecDepth 100000 in
theorem D34 (p0 : Sl) (p1 : Sl) (p2 : Int) (p3 : Int) (w0 : World) (K : (Sl × Bool) → World → Prop) (h : F34 p0 p1 p2 p3 w0 K) : callC Tryz.prog 34 #[(Sl.v p0), (Sl.v p1), (Value.int .i64 p2), (Value.int .i64 p3)] (fun (r : Sl × Bool) => (Value.tuple #[(Sl.v r.1), (Value.bool r.2)])) w0 K := by
  unfold F34 at h
  refine calls_of_wpC Tryz.func34 rfl 98 rfl (by simp) ?_
  intro ρ hρ
  have e0 : ρ 0 = (Sl.v p0) := hρ 0
  have e1 : ρ 1 = (Sl.v p1) := hρ 1
  have e2 : ρ 2 = (Value.int .i64 p2) := hρ 2
  have e3 : ρ 3 = (Value.int .i64 p3) := hρ 3
  clear hρ
  refine wpC_seq ?_
  refine wpC_region ?_
  refine rv (Sl.v Sl.nil) w0 rfl rfl rfl (x_assign rfl rfl) ?_
  refine rv (Value.bool false) w0 rfl rfl rfl (x_assign rfl rfl) ?_
  refine wpR_nil ?_
  refine wpC_seq ?_
  refine wpC_cut (fun ρ => ρ 0 = (Sl.v p0) ∧ ρ 1 = (Sl.v p1) ∧ ρ 2 = (Value.int .i64 p2) ∧ ρ 3 = (Value.int .i64 p3) ∧ True) ⟨e0, e1, e2, e3, trivial⟩ ?_
  rintro ρ ⟨e0, e1, e2, e3, -⟩
  refine wpC_region ?_
  obtain ⟨r9, w1, q9, h⟩ := h
  refine rv (Value.map r9) w1 rfl rfl rfl (x_makeMap rfl rfl q9) ?_
  refine rv (Value.int .i64 p2) w1 rfl rfl rfl (x_move rfl e2) ?_
  obtain ⟨w2, q10, h⟩ := h
  refine wpR_skp (w' := w2) rfl rfl (x_insert rfl rfl rfl rfl q10) ?_
  refine rv (Value.map r9) w2 rfl rfl rfl (x_move rfl rfl) ?_
  refine rv (Value.int .i64 p2) w2 rfl rfl rfl (x_move rfl e2) ?_
  obtain ⟨b11, hb11⟩ : ∃ u, u = w2.heap.size := ⟨_, rfl⟩
  obtain ⟨w3, hw11⟩ : ∃ u, u = w2.alloc (.cells #[(Value.int .i64 p2)] 3) := ⟨_, rfl⟩
  replace h := h b11 w3 hb11 hw11
  refine rv (Sl.v (⟨some ⟨b11, 0, none⟩, 1, 1⟩ : Sl)) w3 rfl rfl rfl ((x_buildSlice (qs := [(0, (Value.int .i64 p2))]) rfl (by rfl) (BS_39_1_0 p2)).trans (by rw [← hb11, ← hw11])) ?_
  refine rv (Value.map r9) w3 rfl rfl rfl (x_assign rfl rfl) ?_
  refine rv (Sl.v (⟨some ⟨b11, 0, none⟩, 1, 1⟩ : Sl)) w3 rfl rfl rfl (x_assign rfl rfl) ?_
  refine wpR_nil ?_
  refine wpC_seq ?_
  refine wpC_block ?_
  obtain ⟨I12, μ12, hI12, hr12⟩ := h
  refine wpC_loop (fun (x : Sl) ρ => ρ 11 = (Sl.v x) ∧ ρ 0 = (Sl.v p0) ∧ ρ 1 = (Sl.v p1) ∧ ρ 2 = (Value.int .i64 p2) ∧ ρ 3 = (Value.int .i64 p3) ∧ ρ 10 = (Value.map r9) ∧ True) I12 μ12 (⟨some ⟨b11, 0, none⟩, 1, 1⟩ : Sl) ⟨rfl, e0, e1, e2, e3, rfl, trivial⟩ hI12 ?_
  rintro l12 ρ w4 ⟨e11, e0, e1, e2, e3, e10, -⟩ h
  replace h := hr12 l12 w4 h
  clear hr12 hI12
  refine wpC_seq ?_
  refine wpC_seq ?_
  refine wpC_region ?_
  refine rv (Sl.v l12) w4 rfl rfl rfl (x_move rfl e11) ?_
  refine rv (Value.int .i64 (l12.len : Int)) w4 rfl rfl rfl (x_lenS (s := l12) rfl rfl isSliceT_39) ?_
  refine rv (Value.bool (decide (0 < (l12.len : Int)))) w4 rfl rfl rfl (x_gtr rfl rfl rfl) ?_
  refine wpR_nil ?_
  refine wpC_cond (b := decide (0 < (l12.len : Int))) rfl (fun hc13 => ?_) (fun hc13 => ?_)
  · replace h := h.1 hc13
    refine wpC_skip ?_
    refine wpC_block ?_
    refine wpC_seq ?_
    refine wpC_cut (fun ρ => ρ 0 = (Sl.v p0) ∧ ρ 1 = (Sl.v p1) ∧ ρ 2 = (Value.int .i64 p2) ∧ ρ 3 = (Value.int .i64 p3) ∧ ρ 10 = (Value.map r9) ∧ ρ 11 = (Sl.v l12) ∧ True) ⟨e0, e1, e2, e3, e10, e11, trivial⟩ ?_
    rintro ρ ⟨e0, e1, e2, e3, e10, e11, -⟩
    refine wpC_region ?_
    refine rv (Sl.v l12) w4 rfl rfl rfl (x_move rfl e11) ?_
    obtain ⟨q14, z14, r14, h⟩ := h
    generalize hp14 : z14.add ((0 : Int).toNat * 1) = p14 at h
    refine rv (Value.pointer (some p14)) w4 rfl rfl rfl ((x_indexAddr (s := l12) rfl rfl rfl ES_39 q14 r14).trans (by rw [hp14])) ?_
    obtain ⟨x15, q15, h⟩ := h
    refine rv (Value.int .i64 x15) w4 rfl rfl rfl (x_load1 rfl rfl SH_3 q15) ?_
    refine rv (Value.int .i64 x15) w4 rfl rfl rfl (x_assign rfl rfl) ?_
    refine wpR_nil ?_
    refine wpC_seq ?_
    refine wpC_cut (fun ρ => ρ 0 = (Sl.v p0) ∧ ρ 1 = (Sl.v p1) ∧ ρ 2 = (Value.int .i64 p2) ∧ ρ 3 = (Value.int .i64 p3) ∧ ρ 10 = (Value.map r9) ∧ ρ 11 = (Sl.v l12) ∧ ρ 12 = (Value.int .i64 x15) ∧ True) ⟨e0, e1, e2, e3, e10, e11, rfl, trivial⟩ ?_
    rintro ρ ⟨e0, e1, e2, e3, e10, e11, e12, -⟩
    refine wpC_region ?_
    refine rv (Sl.v l12) w4 rfl rfl rfl (x_move rfl e11) ?_
    obtain ⟨r16, w5, q16, h⟩ := h
    refine rv (Sl.v r16) w5 rfl rfl rfl (x_sliceAt rfl rfl (congrArg some rfl) rfl rfl q16) ?_
    refine rv (Sl.v r16) w5 rfl rfl rfl (x_assign rfl rfl) ?_
    refine wpR_nil ?_
    refine wpC_seq ?_
    refine wpC_cut (fun ρ => ρ 0 = (Sl.v p0) ∧ ρ 1 = (Sl.v p1) ∧ ρ 2 = (Value.int .i64 p2) ∧ ρ 3 = (Value.int .i64 p3) ∧ ρ 10 = (Value.map r9) ∧ ρ 11 = (Sl.v r16) ∧ ρ 12 = (Value.int .i64 x15) ∧ True) ⟨e0, e1, e2, e3, e10, rfl, e12, trivial⟩ ?_
    rintro ρ ⟨e0, e1, e2, e3, e10, e11, e12, -⟩
    refine wpC_region ?_
    refine rv (Sl.v p1) w5 rfl rfl rfl (x_move rfl e1) ?_
    refine rv (Value.int .i64 (p1.len : Int)) w5 rfl rfl rfl (x_lenS (s := p1) rfl rfl isSliceT_39) ?_
    refine rv (Value.int .i64 0) w5 rfl rfl rfl (x_move rfl rfl) ?_
    refine wpR_nil ?_
    refine wpC_block ?_
    obtain ⟨I17, μ17, hI17, hr17⟩ := h
    refine wpC_loop (fun (x : Sl × Int) ρ => ρ 11 = (Sl.v x.1) ∧ ρ 37 = (Value.int .i64 x.2) ∧ ρ 0 = (Sl.v p0) ∧ ρ 1 = (Sl.v p1) ∧ ρ 2 = (Value.int .i64 p2) ∧ ρ 3 = (Value.int .i64 p3) ∧ ρ 10 = (Value.map r9) ∧ ρ 12 = (Value.int .i64 x15) ∧ ρ 35 = (Sl.v p1) ∧ ρ 36 = (Value.int .i64 (p1.len : Int)) ∧ True) I17 μ17 (r16, 0) ⟨e11, rfl, e0, e1, e2, e3, e10, e12, rfl, rfl, trivial⟩ hI17 ?_
    rintro l17 ρ w6 ⟨e11, e37, e0, e1, e2, e3, e10, e12, e35, e36, -⟩ h
    replace h := hr17 l17 w6 h
    clear hr17 hI17
    refine wpC_seq ?_
    refine wpC_region ?_
    refine rv (Value.bool (decide (l17.2 < (p1.len : Int)))) w6 rfl rfl rfl (x_lss rfl e37 e36) ?_
    refine wpR_nil ?_
    refine wpC_seq ?_
    refine wpC_cond (b := decide (l17.2 < (p1.len : Int))) rfl (fun hc18 => ?_) (fun hc18 => ?_)
    · replace h := h.1 hc18
      refine wpC_skip ?_
      obtain ⟨J19, h, hk⟩ := h
      refine wpC_seqJ (fun (x : Sl) ρ => ρ 11 = (Sl.v x) ∧ ρ 0 = (Sl.v p0) ∧ ρ 1 = (Sl.v p1) ∧ ρ 2 = (Value.int .i64 p2) ∧ ρ 3 = (Value.int .i64 p3) ∧ ρ 10 = (Value.map r9) ∧ ρ 12 = (Value.int .i64 x15) ∧ ρ 35 = (Sl.v p1) ∧ ρ 36 = (Value.int .i64 (p1.len : Int)) ∧ ρ 37 = (Value.int .i64 l17.2) ∧ True) J19 ?_ ?_
      · clear hk
        refine wpC_block ?_
        refine wpC_seq ?_
        refine wpC_cut (fun ρ => ρ 0 = (Sl.v p0) ∧ ρ 1 = (Sl.v p1) ∧ ρ 2 = (Value.int .i64 p2) ∧ ρ 3 = (Value.int .i64 p3) ∧ ρ 10 = (Value.map r9) ∧ ρ 11 = (Sl.v l17.1) ∧ ρ 12 = (Value.int .i64 x15) ∧ ρ 35 = (Sl.v p1) ∧ ρ 36 = (Value.int .i64 (p1.len : Int)) ∧ ρ 37 = (Value.int .i64 l17.2) ∧ True) ⟨e0, e1, e2, e3, e10, e11, e12, e35, e36, e37, trivial⟩ ?_
        rintro ρ ⟨e0, e1, e2, e3, e10, e11, e12, e35, e36, e37, -⟩
        refine wpC_region ?_
        obtain ⟨q21, z21, r21, h⟩ := h
        generalize hp21 : z21.add ((l17.2 : Int).toNat * 1) = p21 at h
        refine rv (Value.pointer (some p21)) w6 rfl rfl rfl ((x_indexAddr (s := p1) rfl e35 e37 ES_39 q21 r21).trans (by rw [hp21])) ?_
        obtain ⟨x22, q22, h⟩ := h
        refine rv (Value.int .i64 x22) w6 rfl rfl rfl (x_load1 rfl rfl SH_3 q22) ?_
        refine rv (Value.int .i64 x22) w6 rfl rfl rfl (x_assign rfl rfl) ?_
        refine wpR_nil ?_
        refine wpC_seq ?_
        refine wpC_cut (fun ρ => ρ 0 = (Sl.v p0) ∧ ρ 1 = (Sl.v p1) ∧ ρ 2 = (Value.int .i64 p2) ∧ ρ 3 = (Value.int .i64 p3) ∧ ρ 10 = (Value.map r9) ∧ ρ 11 = (Sl.v l17.1) ∧ ρ 12 = (Value.int .i64 x15) ∧ ρ 14 = (Value.int .i64 x22) ∧ ρ 35 = (Sl.v p1) ∧ ρ 36 = (Value.int .i64 (p1.len : Int)) ∧ ρ 37 = (Value.int .i64 l17.2) ∧ True) ⟨e0, e1, e2, e3, e10, e11, e12, rfl, e35, e36, e37, trivial⟩ ?_
        rintro ρ ⟨e0, e1, e2, e3, e10, e11, e12, e14, e35, e36, e37, -⟩
        refine wpC_region ?_
        refine rv (Sl.v p0) w6 rfl rfl rfl (x_move rfl e0) ?_
        refine rv (Value.int .i64 x22) w6 rfl rfl rfl (x_move rfl e14) ?_
        obtain ⟨q23, z23, r23, h⟩ := h
        generalize hp23 : z23.add ((x22 : Int).toNat * 3) = p23 at h
        refine rv (Value.pointer (some p23)) w6 rfl rfl rfl ((x_indexAddr (s := p0) rfl rfl rfl ES_47 q23 r23).trans (by rw [hp23])) ?_
        obtain ⟨x24, q24, x25, q25, x26, q26, h⟩ := h
        refine rv (Value.agg #[(Value.int .i64 x24), (Value.int .i64 x25), (Value.bool x26)]) w6 rfl rfl rfl (x_loadN [(Value.int .i64 x24), (Value.int .i64 x25), (Value.bool x26)] rfl rfl SH_56 (CellsAt.out (CellsAt.cons q24 (CellsAt.cons q25 (CellsAt.cons q26 CellsAt.nil))))) ?_
        obtain ⟨b27, hb27⟩ : ∃ u, u = w6.heap.size := ⟨_, rfl⟩
        obtain ⟨w8, hw27⟩ : ∃ u, u = w6.alloc (.cells #[(Value.int .i64 0), (Value.int .i64 0), (Value.bool false)] 56) := ⟨_, rfl⟩
        replace h := h b27 w8 hb27 hw27
        refine rv (Value.pointer (some (Addr.mk b27 0 none))) w8 rfl rfl rfl ((x_alloc rfl ZV_56).trans (by rw [hb27, hw27]; rfl)) ?_
        obtain ⟨q28, h⟩ := h
        obtain ⟨w9, hw28⟩ : ∃ u, u = setAll w8 (Addr.mk b27 0 none) [(Value.int .i64 x24), (Value.int .i64 x25), (Value.bool x26)] 0 := ⟨_, rfl⟩
        replace h := h w9 hw28
        refine wpR_skp (w' := w9) rfl rfl ((x_store (v := (Value.agg #[(Value.int .i64 x24), (Value.int .i64 x25), (Value.bool x26)])) rfl rfl rfl SZ_56 (ones (by rfl)) q28).trans (by rw [hw28]; rfl)) ?_
        refine wpR_nil ?_
        refine wpC_seq ?_
        refine wpC_cut (fun ρ => ρ 0 = (Sl.v p0) ∧ ρ 1 = (Sl.v p1) ∧ ρ 2 = (Value.int .i64 p2) ∧ ρ 3 = (Value.int .i64 p3) ∧ ρ 10 = (Value.map r9) ∧ ρ 11 = (Sl.v l17.1) ∧ ρ 12 = (Value.int .i64 x15) ∧ ρ 14 = (Value.int .i64 x22) ∧ ρ 15 = (Value.pointer (some (Addr.mk b27 0 none))) ∧ ρ 35 = (Sl.v p1) ∧ ρ 36 = (Value.int .i64 (p1.len : Int)) ∧ ρ 37 = (Value.int .i64 l17.2) ∧ True) ⟨e0, e1, e2, e3, e10, e11, e12, e14, rfl, e35, e36, e37, trivial⟩ ?_
        rintro ρ ⟨e0, e1, e2, e3, e10, e11, e12, e14, e15, e35, e36, e37, -⟩
        refine wpC_region ?_
        refine rv (Value.map r9) w9 rfl rfl rfl (x_move rfl e10) ?_
        refine rv (Value.pointer (some ((Addr.mk b27 0 none).add 1))) w9 rfl rfl rfl (x_fieldAddr rfl e15 FA_56_1) ?_
        obtain ⟨x29, q29, h⟩ := h
        refine rv (Value.int .i64 x29) w9 rfl rfl rfl (x_load1 rfl rfl SH_3 q29) ?_
        obtain ⟨r30, w10, q30, h⟩ := h
        refine rv (Value.tuple #[(Value.int .i64 r30.1), (Value.bool r30.2)]) w10 rfl rfl rfl (x_lookup rfl rfl rfl q30) ?_
        refine rv (Value.tuple #[(Value.int .i64 r30.1), (Value.bool r30.2)]) w10 rfl rfl rfl (x_move rfl rfl) ?_
        refine rv (Value.int .i64 r30.1) w10 rfl rfl rfl (x_extract rfl rfl rfl) ?_
        refine rv (Value.bool r30.2) w10 rfl rfl rfl (x_extract rfl rfl rfl) ?_
        refine rv (Value.int .i64 r30.1) w10 rfl rfl rfl (x_assign rfl rfl) ?_
        refine rv (Value.bool r30.2) w10 rfl rfl rfl (x_assign rfl rfl) ?_
        refine wpR_nil ?_
        refine wpC_seq ?_
        refine wpC_cut (fun ρ => ρ 0 = (Sl.v p0) ∧ ρ 1 = (Sl.v p1) ∧ ρ 2 = (Value.int .i64 p2) ∧ ρ 3 = (Value.int .i64 p3) ∧ ρ 10 = (Value.map r9) ∧ ρ 11 = (Sl.v l17.1) ∧ ρ 12 = (Value.int .i64 x15) ∧ ρ 14 = (Value.int .i64 x22) ∧ ρ 15 = (Value.pointer (some (Addr.mk b27 0 none))) ∧ ρ 17 = (Value.bool r30.2) ∧ ρ 35 = (Sl.v p1) ∧ ρ 36 = (Value.int .i64 (p1.len : Int)) ∧ ρ 37 = (Value.int .i64 l17.2) ∧ True) ⟨e0, e1, e2, e3, e10, e11, e12, e14, e15, rfl, e35, e36, e37, trivial⟩ ?_
        rintro ρ ⟨e0, e1, e2, e3, e10, e11, e12, e14, e15, e17, e35, e36, e37, -⟩
        refine wpC_region ?_
        refine rv (Value.pointer (some ((Addr.mk b27 0 none).add 0))) w10 rfl rfl rfl (x_fieldAddr rfl e15 FA_56_0) ?_
        obtain ⟨x31, q31, h⟩ := h
        refine rv (Value.int .i64 x31) w10 rfl rfl rfl (x_load1 rfl rfl SH_3 q31) ?_
        refine rv (Value.int .i64 x15) w10 rfl rfl rfl (x_move rfl e12) ?_
        refine rv (Value.bool (decide (x31 = x15))) w10 rfl rfl rfl (x_eql rfl rfl rfl) ?_
        refine rv (Value.bool (decide (x31 = x15))) w10 rfl rfl rfl (x_move rfl rfl) ?_
        refine wpR_joinJ 3 (fun (_ : Unit) ρ => ρ 59 = Value.bool ((decide (x31 = x15)) && (!r30.2)) ∧ ρ 0 = (Sl.v p0) ∧ ρ 1 = (Sl.v p1) ∧ ρ 2 = (Value.int .i64 p2) ∧ ρ 3 = (Value.int .i64 p3) ∧ ρ 10 = (Value.map r9) ∧ ρ 11 = (Sl.v l17.1) ∧ ρ 12 = (Value.int .i64 x15) ∧ ρ 14 = (Value.int .i64 x22) ∧ ρ 15 = (Value.pointer (some (Addr.mk b27 0 none))) ∧ ρ 35 = (Sl.v p1) ∧ ρ 36 = (Value.int .i64 (p1.len : Int)) ∧ ρ 37 = (Value.int .i64 l17.2) ∧ True) (fun _ w => w10 = w) ?_ ?_
        · clear h
          rcases Bool.eq_false_or_eq_true (decide (x31 = x15)) with hc33 | hc33
          · skip
            refine wpR_val (v := (Value.bool r30.2)) (w' := w10) (wantG rfl rfl rfl hc33) rfl rfl (x_move rfl e17) ?_
            refine wpR_val (v := (Value.bool (!r30.2))) (w' := w10) (wantG rfl rfl rfl hc33) rfl rfl (x_not rfl rfl) ?_
            refine rv (Value.bool (!r30.2)) w10 rfl rfl rfl (x_pickT (v := (Value.bool (!r30.2))) rfl rfl hc33 rfl) ?_
            refine wpR_nil ?_
            exact ⟨(), ⟨(by rw [hc33]; rfl), e0, e1, e2, e3, e10, e11, e12, e14, e15, e35, e36, e37, trivial⟩, rfl⟩
          · skip
            refine wpR_pass (wantN rfl rfl rfl hc33) rfl rfl ?_
            refine wpR_pass (wantN rfl rfl rfl hc33) rfl rfl ?_
            refine rv (Value.bool false) w10 rfl rfl rfl (x_pickF (v := (Value.bool false)) rfl rfl hc33 rfl) ?_
            refine wpR_nil ?_
            exact ⟨(), ⟨(by rw [hc33]; rfl), e0, e1, e2, e3, e10, e11, e12, e14, e15, e35, e36, e37, trivial⟩, rfl⟩
        rintro _ ρ wj ⟨e59, e0, e1, e2, e3, e10, e11, e12, e14, e15, e35, e36, e37, -⟩ rfl
        refine wpR_nil ?_
        refine wpC_cond (b := (decide (x31 = x15)) && (!r30.2)) e59 (fun hc34 => ?_) (fun hc34 => ?_)
        · replace h := h.1 hc34
          refine wpC_seq ?_
          refine wpC_region ?_
          refine rv (Value.map r9) w10 rfl rfl rfl (x_move rfl e10) ?_
          refine rv (Value.pointer (some ((Addr.mk b27 0 none).add 1))) w10 rfl rfl rfl (x_fieldAddr rfl e15 FA_56_1) ?_
          obtain ⟨x35, q35, h⟩ := h
          refine rv (Value.int .i64 x35) w10 rfl rfl rfl (x_load1 rfl rfl SH_3 q35) ?_
          refine rv (Value.int .i64 x22) w10 rfl rfl rfl (x_move rfl e14) ?_
          obtain ⟨w11, q36, h⟩ := h
          refine wpR_skp (w' := w11) rfl rfl (x_mapUpdate rfl rfl rfl rfl q36) ?_
          refine wpR_nil ?_
          refine wpC_cut (fun ρ => ρ 0 = (Sl.v p0) ∧ ρ 1 = (Sl.v p1) ∧ ρ 2 = (Value.int .i64 p2) ∧ ρ 3 = (Value.int .i64 p3) ∧ ρ 10 = (Value.map r9) ∧ ρ 11 = (Sl.v l17.1) ∧ ρ 12 = (Value.int .i64 x15) ∧ ρ 15 = (Value.pointer (some (Addr.mk b27 0 none))) ∧ ρ 35 = (Sl.v p1) ∧ ρ 36 = (Value.int .i64 (p1.len : Int)) ∧ ρ 37 = (Value.int .i64 l17.2) ∧ True) ⟨e0, e1, e2, e3, e10, e11, e12, e15, e35, e36, e37, trivial⟩ ?_
          rintro ρ ⟨e0, e1, e2, e3, e10, e11, e12, e15, e35, e36, e37, -⟩
          refine wpC_region ?_
          refine rv (Sl.v l17.1) w11 rfl rfl rfl (x_move rfl e11) ?_
          refine rv (Value.pointer (some ((Addr.mk b27 0 none).add 1))) w11 rfl rfl rfl (x_fieldAddr rfl e15 FA_56_1) ?_
          obtain ⟨x37, q37, h⟩ := h
          refine rv (Value.int .i64 x37) w11 rfl rfl rfl (x_load1 rfl rfl SH_3 q37) ?_
          obtain ⟨b38, hb38⟩ : ∃ u, u = w11.heap.size := ⟨_, rfl⟩
          obtain ⟨w12, hw38⟩ : ∃ u, u = w11.alloc (.cells #[(Value.int .i64 x37)] 3) := ⟨_, rfl⟩
          replace h := h b38 w12 hb38 hw38
          refine rv (Sl.v (⟨some ⟨b38, 0, none⟩, 1, 1⟩ : Sl)) w12 rfl rfl rfl ((x_buildSlice (qs := [(0, (Value.int .i64 x37))]) rfl (by rfl) (BS_39_1_0 x37)).trans (by rw [← hb38, ← hw38])) ?_
          obtain ⟨r39, w13, q39, h⟩ := h
          refine rv (Sl.v r39) w13 rfl rfl rfl (x_append (s := l17.1) (u := (⟨some ⟨b38, 0, none⟩, 1, 1⟩ : Sl)) rfl rfl rfl rfl q39) ?_
          refine rv (Sl.v r39) w13 rfl rfl rfl (x_assign rfl rfl) ?_
          refine wpR_nil ?_
          exact ⟨r39, ⟨rfl, e0, e1, e2, e3, e10, e12, e35, e36, e37, trivial⟩, h⟩
        · replace h := h.2 hc34
          refine wpC_skip ?_
          exact ⟨l17.1, ⟨e11, e0, e1, e2, e3, e10, e12, e35, e36, e37, trivial⟩, h⟩
      clear h
      rintro l20 ρ w7 ⟨e11, e0, e1, e2, e3, e10, e12, e35, e36, e37, -⟩ h
      replace h := hk l20 w7 h
      clear hk
      refine wpC_region ?_
      refine rv (Value.int .i64 (IntKind.i64.wrap (l17.2 + 1))) w7 rfl rfl rfl (x_add rfl e37 rfl) ?_
      refine rv (Value.int .i64 (IntKind.i64.wrap (l17.2 + 1))) w7 rfl rfl rfl (x_move rfl rfl) ?_
      refine wpR_nil ?_
      exact ⟨(l20, IntKind.i64.wrap (l17.2 + 1)), ⟨e11, rfl, e0, e1, e2, e3, e10, e12, e35, e36, trivial⟩, h⟩
    · replace h := h.2 hc18
      refine wpC_exit ?_
      exact ⟨l17.1, ⟨e11, e0, e1, e2, e3, e10, trivial⟩, h⟩
  · replace h := h.2 hc13
    refine wpC_exit ?_
    refine wpC_seq ?_
    refine wpC_seq ?_
    refine wpC_cut (fun ρ => ρ 0 = (Sl.v p0) ∧ ρ 2 = (Value.int .i64 p2) ∧ ρ 3 = (Value.int .i64 p3) ∧ ρ 10 = (Value.map r9) ∧ True) ⟨e0, e2, e3, e10, trivial⟩ ?_
    rintro ρ ⟨e0, e2, e3, e10, -⟩
    refine wpC_region ?_
    refine rv (Value.map r9) w4 rfl rfl rfl (x_move rfl e10) ?_
    refine rv (Value.int .i64 p3) w4 rfl rfl rfl (x_move rfl e3) ?_
    obtain ⟨r40, w14, q40, h⟩ := h
    refine rv (Value.tuple #[(Value.int .i64 r40.1), (Value.bool r40.2)]) w14 rfl rfl rfl (x_lookup rfl rfl rfl q40) ?_
    refine rv (Value.tuple #[(Value.int .i64 r40.1), (Value.bool r40.2)]) w14 rfl rfl rfl (x_move rfl rfl) ?_
    refine rv (Value.int .i64 r40.1) w14 rfl rfl rfl (x_extract rfl rfl rfl) ?_
    refine rv (Value.bool r40.2) w14 rfl rfl rfl (x_extract rfl rfl rfl) ?_
    refine rv (Value.int .i64 r40.1) w14 rfl rfl rfl (x_assign rfl rfl) ?_
    refine rv (Value.bool r40.2) w14 rfl rfl rfl (x_assign rfl rfl) ?_
    refine wpR_nil ?_
    refine wpC_seq ?_
    refine wpC_cut (fun ρ => ρ 0 = (Sl.v p0) ∧ ρ 2 = (Value.int .i64 p2) ∧ ρ 3 = (Value.int .i64 p3) ∧ ρ 10 = (Value.map r9) ∧ ρ 19 = (Value.bool r40.2) ∧ True) ⟨e0, e2, e3, e10, rfl, trivial⟩ ?_
    rintro ρ ⟨e0, e2, e3, e10, e19, -⟩
    refine wpC_region ?_
    refine rv (Value.bool r40.2) w14 rfl rfl rfl (x_move rfl e19) ?_
    refine rv (Value.bool (!r40.2)) w14 rfl rfl rfl (x_not rfl rfl) ?_
    refine wpR_nil ?_
    refine wpC_cond (b := !r40.2) rfl (fun hc41 => ?_) (fun hc41 => ?_)
    · replace h := h.1 hc41
      refine wpC_seq ?_
      refine wpC_cut (fun ρ => True) trivial ?_
      rintro ρ -
      refine wpC_region ?_
      refine rv (Sl.v Sl.nil) w14 rfl rfl rfl (x_assign rfl rfl) ?_
      refine rv (Value.bool false) w14 rfl rfl rfl (x_assign rfl rfl) ?_
      refine wpR_nil ?_
      refine wpC_ret ?_
      exact ⟨.inl rfl, fun a ha => ⟨_, results_rep2 rfl ha rfl rfl, (Sl.nil, false), rfl, h⟩⟩
    · replace h := h.2 hc41
      refine wpC_skip ?_
      refine wpC_seq ?_
      refine wpC_cut (fun ρ => ρ 0 = (Sl.v p0) ∧ ρ 2 = (Value.int .i64 p2) ∧ ρ 3 = (Value.int .i64 p3) ∧ ρ 10 = (Value.map r9) ∧ True) ⟨e0, e2, e3, e10, trivial⟩ ?_
      rintro ρ ⟨e0, e2, e3, e10, -⟩
      refine wpC_region ?_
      refine rv (Sl.v Sl.nil) w14 rfl rfl rfl (x_assign rfl rfl) ?_
      refine wpR_nil ?_
      refine wpC_seq ?_
      refine wpC_seq ?_
      refine wpC_cut (fun ρ => ρ 0 = (Sl.v p0) ∧ ρ 2 = (Value.int .i64 p2) ∧ ρ 3 = (Value.int .i64 p3) ∧ ρ 10 = (Value.map r9) ∧ ρ 20 = (Sl.v Sl.nil) ∧ True) ⟨e0, e2, e3, e10, rfl, trivial⟩ ?_
      rintro ρ ⟨e0, e2, e3, e10, e20, -⟩
      refine wpC_region ?_
      refine rv (Value.int .i64 p3) w14 rfl rfl rfl (x_move rfl e3) ?_
      refine rv (Value.int .i64 p3) w14 rfl rfl rfl (x_assign rfl rfl) ?_
      refine wpR_nil ?_
      refine wpC_block ?_
      obtain ⟨I42, μ42, hI42, hr42⟩ := h
      refine wpC_loop (fun (x : Sl × Int) ρ => ρ 20 = (Sl.v x.1) ∧ ρ 21 = (Value.int .i64 x.2) ∧ ρ 0 = (Sl.v p0) ∧ ρ 2 = (Value.int .i64 p2) ∧ ρ 10 = (Value.map r9) ∧ True) I42 μ42 (Sl.nil, p3) ⟨e20, rfl, e0, e2, e10, trivial⟩ hI42 ?_
      rintro l42 ρ w15 ⟨e20, e21, e0, e2, e10, -⟩ h
      replace h := hr42 l42 w15 h
      clear hr42 hI42
      refine wpC_seq ?_
      refine wpC_seq ?_
      refine wpC_region ?_
      refine rv (Value.int .i64 l42.2) w15 rfl rfl rfl (x_move rfl e21) ?_
      refine rv (Value.int .i64 p2) w15 rfl rfl rfl (x_move rfl e2) ?_
      refine rv (Value.bool (!decide (l42.2 = p2))) w15 rfl rfl rfl (x_neq rfl rfl rfl) ?_
      refine wpR_nil ?_
      refine wpC_cond (b := !decide (l42.2 = p2)) rfl (fun hc43 => ?_) (fun hc43 => ?_)
      · replace h := h.1 hc43
        refine wpC_skip ?_
        refine wpC_seq ?_
        refine wpC_block ?_
        refine wpC_cut (fun ρ => ρ 0 = (Sl.v p0) ∧ ρ 2 = (Value.int .i64 p2) ∧ ρ 10 = (Value.map r9) ∧ ρ 20 = (Sl.v l42.1) ∧ ρ 21 = (Value.int .i64 l42.2) ∧ True) ⟨e0, e2, e10, e20, e21, trivial⟩ ?_
        rintro ρ ⟨e0, e2, e10, e20, e21, -⟩
        refine wpC_region ?_
        refine rv (Sl.v l42.1) w15 rfl rfl rfl (x_move rfl e20) ?_
        refine rv (Value.map r9) w15 rfl rfl rfl (x_move rfl e10) ?_
        refine rv (Value.int .i64 l42.2) w15 rfl rfl rfl (x_move rfl e21) ?_
        obtain ⟨r44, w16, q44, h⟩ := h
        refine rv (Value.int .i64 r44) w16 rfl rfl rfl (x_lookup rfl rfl rfl q44) ?_
        obtain ⟨b45, hb45⟩ : ∃ u, u = w16.heap.size := ⟨_, rfl⟩
        obtain ⟨w17, hw45⟩ : ∃ u, u = w16.alloc (.cells #[(Value.int .i64 r44)] 3) := ⟨_, rfl⟩
        replace h := h b45 w17 hb45 hw45
        refine rv (Sl.v (⟨some ⟨b45, 0, none⟩, 1, 1⟩ : Sl)) w17 rfl rfl rfl ((x_buildSlice (qs := [(0, (Value.int .i64 r44))]) rfl (by rfl) (BS_39_1_0 r44)).trans (by rw [← hb45, ← hw45])) ?_
        obtain ⟨r46, w18, q46, h⟩ := h
        refine rv (Sl.v r46) w18 rfl rfl rfl (x_append (s := l42.1) (u := (⟨some ⟨b45, 0, none⟩, 1, 1⟩ : Sl)) rfl rfl rfl rfl q46) ?_
        refine rv (Sl.v r46) w18 rfl rfl rfl (x_assign rfl rfl) ?_
        refine wpR_nil ?_
        refine wpC_cut (fun ρ => ρ 0 = (Sl.v p0) ∧ ρ 2 = (Value.int .i64 p2) ∧ ρ 10 = (Value.map r9) ∧ ρ 20 = (Sl.v r46) ∧ ρ 21 = (Value.int .i64 l42.2) ∧ True) ⟨e0, e2, e10, rfl, e21, trivial⟩ ?_
        rintro ρ ⟨e0, e2, e10, e20, e21, -⟩
        refine wpC_region ?_
        refine rv (Sl.v p0) w18 rfl rfl rfl (x_move rfl e0) ?_
        refine rv (Value.map r9) w18 rfl rfl rfl (x_move rfl e10) ?_
        refine rv (Value.int .i64 l42.2) w18 rfl rfl rfl (x_move rfl e21) ?_
        obtain ⟨r47, w19, q47, h⟩ := h
        refine rv (Value.int .i64 r47) w19 rfl rfl rfl (x_lookup rfl rfl rfl q47) ?_
        obtain ⟨q48, z48, r48, h⟩ := h
        generalize hp48 : z48.add ((r47 : Int).toNat * 3) = p48 at h
        refine rv (Value.pointer (some p48)) w19 rfl rfl rfl ((x_indexAddr (s := p0) rfl rfl rfl ES_47 q48 r48).trans (by rw [hp48])) ?_
        refine rv (Value.pointer (some (p48.add 0))) w19 rfl rfl rfl (x_fieldAddr rfl rfl FA_56_0) ?_
        obtain ⟨x49, q49, h⟩ := h
        refine rv (Value.int .i64 x49) w19 rfl rfl rfl (x_load1 rfl rfl SH_3 q49) ?_
        refine rv (Value.int .i64 x49) w19 rfl rfl rfl (x_assign rfl rfl) ?_
        refine wpR_nil ?_
        exact ⟨(r46, x49), ⟨e20, rfl, e0, e2, e10, trivial⟩, h⟩
      · replace h := h.2 hc43
        refine wpC_exit ?_
        refine wpC_seq ?_
        refine wpC_cut (fun ρ => ρ 20 = (Sl.v l42.1) ∧ True) ⟨e20, trivial⟩ ?_
        rintro ρ ⟨e20, -⟩
        refine wpC_region ?_
        refine rv (Sl.v l42.1) w15 rfl rfl rfl (x_move rfl e20) ?_
        refine wpR_enter rfl rfl rfl (x_call (vs := [(Sl.v l42.1)]) rfl rfl (mapl_cons rfl mapl_nil) Tryz.func60 NN_60 NB_60) (Calls.mono h ?_)
        rintro _ w20 ⟨r50, rfl, h⟩
        refine ⟨_, rfl, ?_⟩
        refine wpR_nil ?_
        refine wpC_seq ?_
        refine wpC_cut (fun ρ => ρ 20 = (Sl.v l42.1) ∧ True) ⟨e20, trivial⟩ ?_
        rintro ρ ⟨e20, -⟩
        refine wpC_region ?_
        refine rv (Sl.v l42.1) w20 rfl rfl rfl (x_move rfl e20) ?_
        refine rv (Sl.v l42.1) w20 rfl rfl rfl (x_assign rfl rfl) ?_
        refine rv (Value.bool true) w20 rfl rfl rfl (x_assign rfl rfl) ?_
        refine wpR_nil ?_
        refine wpC_ret ?_
        exact ⟨.inl rfl, fun a ha => ⟨_, results_rep2 rfl ha rfl rfl, (l42.1, true), rfl, h⟩⟩

/-- ring.ranks -/
def F35 (p0 : Sl) (p1 : Sl) (p2 : Int) (w0 : World) (K : Sl → World → Prop) : Prop :=
  rn Tryz.prog (Instr.makeSlice 39 (Value.int .i64 p2) (Value.int .i64 p2)) (fun (r : Sl) => (Sl.v r)) w0 fun r9 w1 =>
  lp (fun (next10 : Int → World → Prop) l10 w2 =>
    cnd (decide (l10 < p2))
      (
      lp (fun (next12 : Int → World → Prop) l12 w3 =>
        cnd (decide (l12 < (p1.len : Int)))
          (
          ix p1 l12 1 fun p14 =>
          ld (Value.int .i64) p14 w3 fun x15 =>
          ix p0 x15 3 fun p16 =>
          ld (Value.int .i64) (p16.add 0) w3 fun x17 =>
          ld (Value.int .i64) (p16.add 1) w3 fun x18 =>
          ld Value.bool (p16.add 2) w3 fun x19 =>
          nw 56 #[(Value.int .i64 0), (Value.int .i64 0), (Value.bool false)] w3 fun b20 w4 =>
          st (Addr.mk b20 0 none) [(Value.int .i64 x17), (Value.int .i64 x18), (Value.bool x19)] w4 fun w5 =>
          jn (fun (J23 : Unit → World → Prop) => tk w5 fun w6 =>
            ld (Value.int .i64) ((Addr.mk b20 0 none).add 1) w6 fun x24 =>
            ld (Value.int .i64) ((Addr.mk b20 0 none).add 1) w6 fun x25 =>
            ix r9 x25 1 fun p26 =>
            ld (Value.int .i64) p26 w6 fun x27 =>
            ld (Value.int .i64) ((Addr.mk b20 0 none).add 0) w6 fun x28 =>
            ix r9 x28 1 fun p29 =>
            ld (Value.int .i64) p29 w6 fun x30 =>
            ix r9 x24 1 fun p31 =>
            st p31 [(Value.int .i64 (max x27 (IntKind.i64.wrap (x30 + 1))))] w6 fun w7 =>
            J23 () w7
          )
          fun _l33 w8 =>
          next12 (IntKind.i64.wrap (l12 + 1)) w8
          )
          (
          next10 (IntKind.i64.wrap (l10 + 1)) w3
          )
      ) 0 w2
      )
      (
      K r9 w2
      )
  ) 0 w1
set_option maxRecDepth 100000 in
theorem D35 (p0 : Sl) (p1 : Sl) (p2 : Int) (w0 : World) (K : Sl → World → Prop) (h : F35 p0 p1 p2 w0 K) : callC Tryz.prog 35 #[(Sl.v p0), (Sl.v p1), (Value.int .i64 p2)] (fun (r : Sl) => (Sl.v r)) w0 K := by
  unfold F35 at h
  refine calls_of_wpC Tryz.func35 rfl 45 rfl (by simp) ?_
  intro ρ hρ
  have e0 : ρ 0 = (Sl.v p0) := hρ 0
  have e1 : ρ 1 = (Sl.v p1) := hρ 1
  have e2 : ρ 2 = (Value.int .i64 p2) := hρ 2
  clear hρ
  refine wpC_seq ?_
  refine wpC_region ?_
  refine rv (Sl.v Sl.nil) w0 rfl rfl rfl (x_assign rfl rfl) ?_
  refine wpR_nil ?_
  refine wpC_seq ?_
  refine wpC_cut (fun ρ => ρ 0 = (Sl.v p0) ∧ ρ 1 = (Sl.v p1) ∧ ρ 2 = (Value.int .i64 p2) ∧ True) ⟨e0, e1, e2, trivial⟩ ?_
  rintro ρ ⟨e0, e1, e2, -⟩
  refine wpC_region ?_
  refine rv (Value.int .i64 p2) w0 rfl rfl rfl (x_move rfl e2) ?_
  obtain ⟨r9, w1, q9, h⟩ := h
  refine rv (Sl.v r9) w1 rfl rfl rfl (x_makeSlice rfl rfl rfl q9) ?_
  refine rv (Sl.v r9) w1 rfl rfl rfl (x_assign rfl rfl) ?_
  refine wpR_nil ?_
  refine wpC_seq ?_
  refine wpC_seq ?_
  refine wpC_cut (fun ρ => ρ 0 = (Sl.v p0) ∧ ρ 1 = (Sl.v p1) ∧ ρ 2 = (Value.int .i64 p2) ∧ ρ 7 = (Sl.v r9) ∧ True) ⟨e0, e1, e2, rfl, trivial⟩ ?_
  rintro ρ ⟨e0, e1, e2, e7, -⟩
  refine wpC_region ?_
  refine rv (Value.int .i64 p2) w1 rfl rfl rfl (x_move rfl e2) ?_
  refine rv (Value.int .i64 0) w1 rfl rfl rfl (x_move rfl rfl) ?_
  refine wpR_nil ?_
  refine wpC_block ?_
  obtain ⟨I10, μ10, hI10, hr10⟩ := h
  refine wpC_loop (fun (x : Int) ρ => ρ 14 = (Value.int .i64 x) ∧ ρ 0 = (Sl.v p0) ∧ ρ 1 = (Sl.v p1) ∧ ρ 7 = (Sl.v r9) ∧ ρ 13 = (Value.int .i64 p2) ∧ True) I10 μ10 0 ⟨rfl, e0, e1, e7, rfl, trivial⟩ hI10 ?_
  rintro l10 ρ w2 ⟨e14, e0, e1, e7, e13, -⟩ h
  replace h := hr10 l10 w2 h
  clear hr10 hI10
  refine wpC_seq ?_
  refine wpC_region ?_
  refine rv (Value.bool (decide (l10 < p2))) w2 rfl rfl rfl (x_lss rfl e14 e13) ?_
  refine wpR_nil ?_
  refine wpC_seq ?_
  refine wpC_cond (b := decide (l10 < p2)) rfl (fun hc11 => ?_) (fun hc11 => ?_)
  · replace h := h.1 hc11
    refine wpC_skip ?_
    refine wpC_seq ?_
    refine wpC_block ?_
    refine wpC_seq ?_
    refine wpC_cut (fun ρ => ρ 0 = (Sl.v p0) ∧ ρ 1 = (Sl.v p1) ∧ ρ 7 = (Sl.v r9) ∧ ρ 13 = (Value.int .i64 p2) ∧ ρ 14 = (Value.int .i64 l10) ∧ True) ⟨e0, e1, e7, e13, e14, trivial⟩ ?_
    rintro ρ ⟨e0, e1, e7, e13, e14, -⟩
    refine wpC_region ?_
    refine rv (Sl.v p1) w2 rfl rfl rfl (x_move rfl e1) ?_
    refine rv (Value.int .i64 (p1.len : Int)) w2 rfl rfl rfl (x_lenS (s := p1) rfl rfl isSliceT_39) ?_
    refine rv (Value.int .i64 0) w2 rfl rfl rfl (x_move rfl rfl) ?_
    refine wpR_nil ?_
    refine wpC_block ?_
    obtain ⟨I12, μ12, hI12, hr12⟩ := h
    refine wpC_loop (fun (x : Int) ρ => ρ 18 = (Value.int .i64 x) ∧ ρ 0 = (Sl.v p0) ∧ ρ 1 = (Sl.v p1) ∧ ρ 7 = (Sl.v r9) ∧ ρ 13 = (Value.int .i64 p2) ∧ ρ 14 = (Value.int .i64 l10) ∧ ρ 16 = (Sl.v p1) ∧ ρ 17 = (Value.int .i64 (p1.len : Int)) ∧ True) I12 μ12 0 ⟨rfl, e0, e1, e7, e13, e14, rfl, rfl, trivial⟩ hI12 ?_
    rintro l12 ρ w3 ⟨e18, e0, e1, e7, e13, e14, e16, e17, -⟩ h
    replace h := hr12 l12 w3 h
    clear hr12 hI12
    refine wpC_seq ?_
    refine wpC_region ?_
    refine rv (Value.bool (decide (l12 < (p1.len : Int)))) w3 rfl rfl rfl (x_lss rfl e18 e17) ?_
    refine wpR_nil ?_
    refine wpC_seq ?_
    refine wpC_cond (b := decide (l12 < (p1.len : Int))) rfl (fun hc13 => ?_) (fun hc13 => ?_)
    · replace h := h.1 hc13
      refine wpC_skip ?_
      refine wpC_seq ?_
      refine wpC_block ?_
      refine wpC_seq ?_
      refine wpC_cut (fun ρ => ρ 0 = (Sl.v p0) ∧ ρ 1 = (Sl.v p1) ∧ ρ 7 = (Sl.v r9) ∧ ρ 13 = (Value.int .i64 p2) ∧ ρ 14 = (Value.int .i64 l10) ∧ ρ 16 = (Sl.v p1) ∧ ρ 17 = (Value.int .i64 (p1.len : Int)) ∧ ρ 18 = (Value.int .i64 l12) ∧ True) ⟨e0, e1, e7, e13, e14, e16, e17, e18, trivial⟩ ?_
      rintro ρ ⟨e0, e1, e7, e13, e14, e16, e17, e18, -⟩
      refine wpC_region ?_
      obtain ⟨q14, z14, r14, h⟩ := h
      generalize hp14 : z14.add ((l12 : Int).toNat * 1) = p14 at h
      refine rv (Value.pointer (some p14)) w3 rfl rfl rfl ((x_indexAddr (s := p1) rfl e16 e18 ES_39 q14 r14).trans (by rw [hp14])) ?_
      obtain ⟨x15, q15, h⟩ := h
      refine rv (Value.int .i64 x15) w3 rfl rfl rfl (x_load1 rfl rfl SH_3 q15) ?_
      refine rv (Value.int .i64 x15) w3 rfl rfl rfl (x_assign rfl rfl) ?_
      refine wpR_nil ?_
      refine wpC_seq ?_
      refine wpC_cut (fun ρ => ρ 0 = (Sl.v p0) ∧ ρ 1 = (Sl.v p1) ∧ ρ 7 = (Sl.v r9) ∧ ρ 9 = (Value.int .i64 x15) ∧ ρ 13 = (Value.int .i64 p2) ∧ ρ 14 = (Value.int .i64 l10) ∧ ρ 16 = (Sl.v p1) ∧ ρ 17 = (Value.int .i64 (p1.len : Int)) ∧ ρ 18 = (Value.int .i64 l12) ∧ True) ⟨e0, e1, e7, rfl, e13, e14, e16, e17, e18, trivial⟩ ?_
      rintro ρ ⟨e0, e1, e7, e9, e13, e14, e16, e17, e18, -⟩
      refine wpC_region ?_
      refine rv (Sl.v p0) w3 rfl rfl rfl (x_move rfl e0) ?_
      refine rv (Value.int .i64 x15) w3 rfl rfl rfl (x_move rfl e9) ?_
      obtain ⟨q16, z16, r16, h⟩ := h
      generalize hp16 : z16.add ((x15 : Int).toNat * 3) = p16 at h
      refine rv (Value.pointer (some p16)) w3 rfl rfl rfl ((x_indexAddr (s := p0) rfl rfl rfl ES_47 q16 r16).trans (by rw [hp16])) ?_
      obtain ⟨x17, q17, x18, q18, x19, q19, h⟩ := h
      refine rv (Value.agg #[(Value.int .i64 x17), (Value.int .i64 x18), (Value.bool x19)]) w3 rfl rfl rfl (x_loadN [(Value.int .i64 x17), (Value.int .i64 x18), (Value.bool x19)] rfl rfl SH_56 (CellsAt.out (CellsAt.cons q17 (CellsAt.cons q18 (CellsAt.cons q19 CellsAt.nil))))) ?_
      obtain ⟨b20, hb20⟩ : ∃ u, u = w3.heap.size := ⟨_, rfl⟩
      obtain ⟨w4, hw20⟩ : ∃ u, u = w3.alloc (.cells #[(Value.int .i64 0), (Value.int .i64 0), (Value.bool false)] 56) := ⟨_, rfl⟩
      replace h := h b20 w4 hb20 hw20
      refine rv (Value.pointer (some (Addr.mk b20 0 none))) w4 rfl rfl rfl ((x_alloc rfl ZV_56).trans (by rw [hb20, hw20]; rfl)) ?_
      obtain ⟨q21, h⟩ := h
      obtain ⟨w5, hw21⟩ : ∃ u, u = setAll w4 (Addr.mk b20 0 none) [(Value.int .i64 x17), (Value.int .i64 x18), (Value.bool x19)] 0 := ⟨_, rfl⟩
      replace h := h w5 hw21
      refine wpR_skp (w' := w5) rfl rfl ((x_store (v := (Value.agg #[(Value.int .i64 x17), (Value.int .i64 x18), (Value.bool x19)])) rfl rfl rfl SZ_56 (ones (by rfl)) q21).trans (by rw [hw21]; rfl)) ?_
      refine wpR_nil ?_
      refine wpC_cut (fun ρ => ρ 0 = (Sl.v p0) ∧ ρ 1 = (Sl.v p1) ∧ ρ 7 = (Sl.v r9) ∧ ρ 10 = (Value.pointer (some (Addr.mk b20 0 none))) ∧ ρ 13 = (Value.int .i64 p2) ∧ ρ 14 = (Value.int .i64 l10) ∧ ρ 16 = (Sl.v p1) ∧ ρ 17 = (Value.int .i64 (p1.len : Int)) ∧ ρ 18 = (Value.int .i64 l12) ∧ True) ⟨e0, e1, e7, rfl, e13, e14, e16, e17, e18, trivial⟩ ?_
      rintro ρ ⟨e0, e1, e7, e10, e13, e14, e16, e17, e18, -⟩
      obtain ⟨J23, h, hk⟩ := h
      refine wpC_drawJ (by kernel_rfl) (fun (x : Unit) ρ => ρ 0 = (Sl.v p0) ∧ ρ 1 = (Sl.v p1) ∧ ρ 7 = (Sl.v r9) ∧ ρ 13 = (Value.int .i64 p2) ∧ ρ 14 = (Value.int .i64 l10) ∧ ρ 16 = (Sl.v p1) ∧ ρ 17 = (Value.int .i64 (p1.len : Int)) ∧ ρ 18 = (Value.int .i64 l12) ∧ True) J23 ?_ ?_
      · clear hk
        unfold tk at h
        generalize w5.drew = w6 at h ⊢
        refine wpD_take (v := (Sl.v r9)) 0 (fun _ => True) rfl (by kernel_rfl) (by kernel_rfl) (by kernel_rfl) rfl rfl rfl trivial (fun w _ => (x_move (v := (Sl.v r9)) rfl e7)) ?_
        refine wpD_take (v := (Value.pointer (some ((Addr.mk b20 0 none).add 1)))) 1 (fun _ => True) rfl (by kernel_rfl) (by kernel_rfl) (by kernel_rfl) rfl rfl rfl trivial (fun w _ => (x_fieldAddr rfl e10 FA_56_1)) ?_
        obtain ⟨x24, q24, h⟩ := h
        refine wpD_take (v := (Value.int .i64 x24)) 2 (fun w => w.cell? ((Addr.mk b20 0 none).add 1) = some (Value.int .i64 x24)) rfl (by kernel_rfl) (by kernel_rfl) (by kernel_rfl) rfl rfl rfl q24 (fun w q24 => (x_load1 rfl rfl SH_3 q24)) ?_
        refine wpD_take (v := (Sl.v r9)) 3 (fun _ => True) rfl (by kernel_rfl) (by kernel_rfl) (by kernel_rfl) rfl rfl rfl trivial (fun w _ => (x_move (v := (Sl.v r9)) rfl e7)) ?_
        refine wpD_take (v := (Value.pointer (some ((Addr.mk b20 0 none).add 1)))) 4 (fun _ => True) rfl (by kernel_rfl) (by kernel_rfl) (by kernel_rfl) rfl rfl rfl trivial (fun w _ => (x_fieldAddr rfl e10 FA_56_1)) ?_
        obtain ⟨x25, q25, h⟩ := h
        refine wpD_take (v := (Value.int .i64 x25)) 5 (fun w => w.cell? ((Addr.mk b20 0 none).add 1) = some (Value.int .i64 x25)) rfl (by kernel_rfl) (by kernel_rfl) (by kernel_rfl) rfl rfl rfl q25 (fun w q25 => (x_load1 rfl rfl SH_3 q25)) ?_
        obtain ⟨q26, z26, r26, h⟩ := h
        generalize hp26 : z26.add ((x25 : Int).toNat * 1) = p26 at h
        refine wpD_take (v := (Value.pointer (some p26))) 6 (fun _ => True) rfl (by kernel_rfl) (by kernel_rfl) (by kernel_rfl) rfl rfl rfl trivial (fun w _ => ((x_indexAddr (s := r9) rfl rfl rfl ES_39 q26 r26).trans (by rw [hp26]))) ?_
        obtain ⟨x27, q27, h⟩ := h
        refine wpD_take (v := (Value.int .i64 x27)) 7 (fun w => w.cell? p26 = some (Value.int .i64 x27)) rfl (by kernel_rfl) (by kernel_rfl) (by kernel_rfl) rfl rfl rfl q27 (fun w q27 => (x_load1 rfl rfl SH_3 q27)) ?_
        refine wpD_take (v := (Sl.v r9)) 8 (fun _ => True) rfl (by kernel_rfl) (by kernel_rfl) (by kernel_rfl) rfl rfl rfl trivial (fun w _ => (x_move (v := (Sl.v r9)) rfl e7)) ?_
        refine wpD_take (v := (Value.pointer (some ((Addr.mk b20 0 none).add 0)))) 9 (fun _ => True) rfl (by kernel_rfl) (by kernel_rfl) (by kernel_rfl) rfl rfl rfl trivial (fun w _ => (x_fieldAddr rfl e10 FA_56_0)) ?_
        obtain ⟨x28, q28, h⟩ := h
        refine wpD_take (v := (Value.int .i64 x28)) 10 (fun w => w.cell? ((Addr.mk b20 0 none).add 0) = some (Value.int .i64 x28)) rfl (by kernel_rfl) (by kernel_rfl) (by kernel_rfl) rfl rfl rfl q28 (fun w q28 => (x_load1 rfl rfl SH_3 q28)) ?_
        obtain ⟨q29, z29, r29, h⟩ := h
        generalize hp29 : z29.add ((x28 : Int).toNat * 1) = p29 at h
        refine wpD_take (v := (Value.pointer (some p29))) 11 (fun _ => True) rfl (by kernel_rfl) (by kernel_rfl) (by kernel_rfl) rfl rfl rfl trivial (fun w _ => ((x_indexAddr (s := r9) rfl rfl rfl ES_39 q29 r29).trans (by rw [hp29]))) ?_
        obtain ⟨x30, q30, h⟩ := h
        refine wpD_take (v := (Value.int .i64 x30)) 12 (fun w => w.cell? p29 = some (Value.int .i64 x30)) rfl (by kernel_rfl) (by kernel_rfl) (by kernel_rfl) rfl rfl rfl q30 (fun w q30 => (x_load1 rfl rfl SH_3 q30)) ?_
        refine wpD_take (v := (Value.int .i64 (IntKind.i64.wrap (x30 + 1)))) 13 (fun _ => True) rfl (by kernel_rfl) (by kernel_rfl) (by kernel_rfl) rfl rfl rfl trivial (fun w _ => (x_add rfl rfl rfl)) ?_
        refine wpD_take (v := (Value.int .i64 (max x27 (IntKind.i64.wrap (x30 + 1))))) 14 (fun _ => True) rfl (by kernel_rfl) (by kernel_rfl) (by kernel_rfl) rfl rfl rfl trivial (fun w _ => (x_max rfl rfl rfl)) ?_
        obtain ⟨q31, z31, r31, h⟩ := h
        generalize hp31 : z31.add ((x24 : Int).toNat * 1) = p31 at h
        refine wpD_take (v := (Value.pointer (some p31))) 15 (fun _ => True) rfl (by kernel_rfl) (by kernel_rfl) (by kernel_rfl) rfl rfl rfl trivial (fun w _ => ((x_indexAddr (s := r9) rfl rfl rfl ES_39 q31 r31).trans (by rw [hp31]))) ?_
        refine wpD_all (rs := [16]) (by kernel_rfl) (by simp) (allD_cons ?_ allD_nil)
        obtain ⟨q32, h⟩ := h
        obtain ⟨w7, hw32⟩ : ∃ u, u = setAll w6 p31 [(Value.int .i64 (max x27 (IntKind.i64.wrap (x30 + 1))))] 0 := ⟨_, rfl⟩
        replace h := h w7 hw32
        refine stepD_skpL (L' := []) (w' := w7) rfl rfl rfl ((x_store (v := (Value.int .i64 (max x27 (IntKind.i64.wrap (x30 + 1))))) rfl rfl rfl SZ_3 (ones (by rfl)) q32).trans (by rw [hw32]; rfl)) (by kernel_rfl) held_nil ?_
        exact wpD_done (by kernel_rfl) ⟨(), ⟨e0, e1, e7, e13, e14, e16, e17, e18, trivial⟩, h⟩
      clear h
      rintro l33 ρ w8 ⟨e0, e1, e7, e13, e14, e16, e17, e18, -⟩ h
      replace h := hk l33 w8 h
      clear hk
      refine wpC_region ?_
      refine rv (Value.int .i64 (IntKind.i64.wrap (l12 + 1))) w8 rfl rfl rfl (x_add rfl e18 rfl) ?_
      refine rv (Value.int .i64 (IntKind.i64.wrap (l12 + 1))) w8 rfl rfl rfl (x_move rfl rfl) ?_
      refine wpR_nil ?_
      exact ⟨IntKind.i64.wrap (l12 + 1), ⟨rfl, e0, e1, e7, e13, e14, e16, e17, trivial⟩, h⟩
    · replace h := h.2 hc13
      refine wpC_exit ?_
      refine wpC_cut (fun ρ => ρ 0 = (Sl.v p0) ∧ ρ 1 = (Sl.v p1) ∧ ρ 7 = (Sl.v r9) ∧ ρ 13 = (Value.int .i64 p2) ∧ ρ 14 = (Value.int .i64 l10) ∧ True) ⟨e0, e1, e7, e13, e14, trivial⟩ ?_
      rintro ρ ⟨e0, e1, e7, e13, e14, -⟩
      refine wpC_region ?_
      refine rv (Value.int .i64 (IntKind.i64.wrap (l10 + 1))) w3 rfl rfl rfl (x_add rfl e14 rfl) ?_
      refine rv (Value.int .i64 (IntKind.i64.wrap (l10 + 1))) w3 rfl rfl rfl (x_move rfl rfl) ?_
      refine wpR_nil ?_
      exact ⟨IntKind.i64.wrap (l10 + 1), ⟨rfl, e0, e1, e7, e13, trivial⟩, h⟩
  · replace h := h.2 hc11
    refine wpC_exit ?_
    refine wpC_seq ?_
    refine wpC_cut (fun ρ => ρ 7 = (Sl.v r9) ∧ True) ⟨e7, trivial⟩ ?_
    rintro ρ ⟨e7, -⟩
    refine wpC_region ?_
    refine rv (Sl.v r9) w2 rfl rfl rfl (x_move rfl e7) ?_
    refine rv (Sl.v r9) w2 rfl rfl rfl (x_assign rfl rfl) ?_
    refine wpR_nil ?_
    refine wpC_ret ?_
    exact ⟨.inl rfl, fun a ha => ⟨_, results_rep1 rfl ha rfl, r9, rfl, h⟩⟩

/-- echo.last -/
def F36 (p0 : Sl) (p1_0 : Int) (p1_1 : Int) (p1_2 : Int) (p1_3 : Int) (p1_4 : Int) (p2 : Int) (p3 : Value) (w0 : World) (K : Int → World → Prop) : Prop :=
  nw 52 #[(Value.int .i64 p1_0), (Value.int .i64 p1_1), (Value.int .i64 p1_2), (Value.int .i64 p1_3), (Value.int .i64 p1_4)] w0 fun b9 w1 =>
  lp (fun (next10 : Int → World → Prop) l10 w2 =>
    cnd (decide (0 ≤ l10))
      (
      jn (fun (J13 : Bool → World → Prop) => tk w2 fun w3 =>
        ix p0 l10 5 fun p14 =>
        ld (Value.int .i64) (p14.add 0) w3 fun x15 =>
        ld (Value.int .i64) (p14.add 1) w3 fun x16 =>
        ld (Value.int .i64) (p14.add 2) w3 fun x17 =>
        ld (Value.int .i64) (p14.add 3) w3 fun x18 =>
        ld (Value.int .i64) (p14.add 4) w3 fun x19 =>
        ld (Value.int .i64) ((Addr.mk b9 0 none).add 0) w3 fun x20 =>
        ld (Value.int .i64) ((Addr.mk b9 0 none).add 1) w3 fun x21 =>
        ld (Value.int .i64) ((Addr.mk b9 0 none).add 2) w3 fun x22 =>
        ld (Value.int .i64) ((Addr.mk b9 0 none).add 3) w3 fun x23 =>
        ld (Value.int .i64) ((Addr.mk b9 0 none).add 4) w3 fun x24 =>
        callC Tryz.prog 61 #[(Value.agg #[(Value.int .i64 x15), (Value.int .i64 x16), (Value.int .i64 x17), (Value.int .i64 x18), (Value.int .i64 x19)]), (Value.agg #[(Value.int .i64 x20), (Value.int .i64 x21), (Value.int .i64 x22), (Value.int .i64 x23), (Value.int .i64 x24)]), (Value.int .i64 p2)] (fun (r : Bool) => (Value.bool r)) w3 fun r25 w4 =>
        cnd (r25)
          (
          cv Tryz.prog p3 [(Value.int .i64 l10)] (fun (r : Bool) => (Value.bool r)) w4 fun r27 w5 =>
          J13 (!r27) w5
          )
          (
          J13 false w4
          )
      )
      fun l28 w6 =>
      cnd (l28)
        (
        K l10 w6
        )
        (
        next10 (IntKind.i64.wrap (l10 - 1)) w6
        )
      )
      (
      K (-1) w2
      )
  ) (IntKind.i64.wrap ((p0.len : Int) - 1)) w1
set_option maxRecDepth 100000 in
theorem D36 (p0 : Sl) (p1_0 : Int) (p1_1 : Int) (p1_2 : Int) (p1_3 : Int) (p1_4 : Int) (p2 : Int) (p3 : Value) (w0 : World) (K : Int → World → Prop) (h : F36 p0 p1_0 p1_1 p1_2 p1_3 p1_4 p2 p3 w0 K) : callC Tryz.prog 36 #[(Sl.v p0), (Value.agg #[(Value.int .i64 p1_0), (Value.int .i64 p1_1), (Value.int .i64 p1_2), (Value.int .i64 p1_3), (Value.int .i64 p1_4)]), (Value.int .i64 p2), p3] (fun (r : Int) => (Value.int .i64 r)) w0 K := by
  unfold F36 at h
  refine calls_of_wpC Tryz.func36 rfl 31 rfl (by simp) ?_
  intro ρ hρ
  have e0 : ρ 0 = (Sl.v p0) := hρ 0
  have e1 : ρ 1 = (Value.agg #[(Value.int .i64 p1_0), (Value.int .i64 p1_1), (Value.int .i64 p1_2), (Value.int .i64 p1_3), (Value.int .i64 p1_4)]) := hρ 1
  have e2 : ρ 2 = (Value.int .i64 p2) := hρ 2
  have e3 : ρ 3 = p3 := hρ 3
  clear hρ
  refine wpC_seq ?_
  refine wpC_region ?_
  obtain ⟨b9, hb9⟩ : ∃ u, u = w0.heap.size := ⟨_, rfl⟩
  obtain ⟨w1, hw9⟩ : ∃ u, u = w0.alloc (.cells #[(Value.int .i64 p1_0), (Value.int .i64 p1_1), (Value.int .i64 p1_2), (Value.int .i64 p1_3), (Value.int .i64 p1_4)] 52) := ⟨_, rfl⟩
  replace h := h b9 w1 hb9 hw9
  refine rv (Value.pointer (some (Addr.mk b9 0 none))) w1 rfl rfl rfl ((x_box (v := (Value.agg #[(Value.int .i64 p1_0), (Value.int .i64 p1_1), (Value.int .i64 p1_2), (Value.int .i64 p1_3), (Value.int .i64 p1_4)])) rfl e1).trans (by rw [hb9, hw9]; rfl)) ?_
  refine rv (Value.int .i64 0) w1 rfl rfl rfl (x_assign rfl rfl) ?_
  refine wpR_nil ?_
  refine wpC_seq ?_
  refine wpC_seq ?_
  refine wpC_cut (fun ρ => ρ 0 = (Sl.v p0) ∧ ρ 2 = (Value.int .i64 p2) ∧ ρ 3 = p3 ∧ ρ 5 = (Value.pointer (some (Addr.mk b9 0 none))) ∧ True) ⟨e0, e2, e3, rfl, trivial⟩ ?_
  rintro ρ ⟨e0, e2, e3, e5, -⟩
  refine wpC_region ?_
  refine rv (Sl.v p0) w1 rfl rfl rfl (x_move rfl e0) ?_
  refine rv (Value.int .i64 (p0.len : Int)) w1 rfl rfl rfl (x_lenS (s := p0) rfl rfl isSliceT_53) ?_
  refine rv (Value.int .i64 (IntKind.i64.wrap ((p0.len : Int) - 1))) w1 rfl rfl rfl (x_sub rfl rfl rfl) ?_
  refine rv (Value.int .i64 (IntKind.i64.wrap ((p0.len : Int) - 1))) w1 rfl rfl rfl (x_assign rfl rfl) ?_
  refine wpR_nil ?_
  refine wpC_block ?_
  obtain ⟨I10, μ10, hI10, hr10⟩ := h
  refine wpC_loop (fun (x : Int) ρ => ρ 9 = (Value.int .i64 x) ∧ ρ 0 = (Sl.v p0) ∧ ρ 2 = (Value.int .i64 p2) ∧ ρ 3 = p3 ∧ ρ 5 = (Value.pointer (some (Addr.mk b9 0 none))) ∧ True) I10 μ10 (IntKind.i64.wrap ((p0.len : Int) - 1)) ⟨rfl, e0, e2, e3, e5, trivial⟩ hI10 ?_
  rintro l10 ρ w2 ⟨e9, e0, e2, e3, e5, -⟩ h
  replace h := hr10 l10 w2 h
  clear hr10 hI10
  refine wpC_seq ?_
  refine wpC_seq ?_
  refine wpC_region ?_
  refine rv (Value.int .i64 l10) w2 rfl rfl rfl (x_move rfl e9) ?_
  refine rv (Value.bool (decide (0 ≤ l10))) w2 rfl rfl rfl (x_geq rfl rfl rfl) ?_
  refine wpR_nil ?_
  refine wpC_cond (b := decide (0 ≤ l10)) rfl (fun hc11 => ?_) (fun hc11 => ?_)
  · replace h := h.1 hc11
    refine wpC_skip ?_
    refine wpC_seq ?_
    refine wpC_block ?_
    refine wpC_seq ?_
    refine wpC_cut (fun ρ => ρ 0 = (Sl.v p0) ∧ ρ 2 = (Value.int .i64 p2) ∧ ρ 3 = p3 ∧ ρ 5 = (Value.pointer (some (Addr.mk b9 0 none))) ∧ ρ 9 = (Value.int .i64 l10) ∧ True) ⟨e0, e2, e3, e5, e9, trivial⟩ ?_
    rintro ρ ⟨e0, e2, e3, e5, e9, -⟩
    obtain ⟨J13, h, hk⟩ := h
    refine wpC_drawJ (by kernel_rfl) (fun (x : Bool) ρ => ρ 29 = (Value.bool x) ∧ ρ 0 = (Sl.v p0) ∧ ρ 2 = (Value.int .i64 p2) ∧ ρ 3 = p3 ∧ ρ 5 = (Value.pointer (some (Addr.mk b9 0 none))) ∧ ρ 9 = (Value.int .i64 l10) ∧ True) J13 ?_ ?_
    · clear hk
      unfold tk at h
      generalize w2.drew = w3 at h ⊢
      refine wpD_take (v := (Sl.v p0)) 0 (fun _ => True) rfl (by kernel_rfl) (by kernel_rfl) (by kernel_rfl) rfl rfl rfl trivial (fun w _ => (x_move (v := (Sl.v p0)) rfl e0)) ?_
      refine wpD_take (v := (Value.int .i64 l10)) 1 (fun _ => True) rfl (by kernel_rfl) (by kernel_rfl) (by kernel_rfl) rfl rfl rfl trivial (fun w _ => (x_move (v := (Value.int .i64 l10)) rfl e9)) ?_
      obtain ⟨q14, z14, r14, h⟩ := h
      generalize hp14 : z14.add ((l10 : Int).toNat * 5) = p14 at h
      refine wpD_take (v := (Value.pointer (some p14))) 2 (fun _ => True) rfl (by kernel_rfl) (by kernel_rfl) (by kernel_rfl) rfl rfl rfl trivial (fun w _ => ((x_indexAddr (s := p0) rfl rfl rfl ES_53 q14 r14).trans (by rw [hp14]))) ?_
      obtain ⟨x15, q15, x16, q16, x17, q17, x18, q18, x19, q19, h⟩ := h
      refine wpD_take (v := (Value.agg #[(Value.int .i64 x15), (Value.int .i64 x16), (Value.int .i64 x17), (Value.int .i64 x18), (Value.int .i64 x19)])) 3 (fun w => w.cell? (p14.add 0) = some (Value.int .i64 x15) ∧ w.cell? (p14.add 1) = some (Value.int .i64 x16) ∧ w.cell? (p14.add 2) = some (Value.int .i64 x17) ∧ w.cell? (p14.add 3) = some (Value.int .i64 x18) ∧ w.cell? (p14.add 4) = some (Value.int .i64 x19)) rfl (by kernel_rfl) (by kernel_rfl) (by kernel_rfl) rfl rfl rfl ⟨q15, q16, q17, q18, q19⟩ (fun w ⟨q15, q16, q17, q18, q19⟩ => (x_loadN [(Value.int .i64 x15), (Value.int .i64 x16), (Value.int .i64 x17), (Value.int .i64 x18), (Value.int .i64 x19)] rfl rfl SH_52 (CellsAt.out (CellsAt.cons q15 (CellsAt.cons q16 (CellsAt.cons q17 (CellsAt.cons q18 (CellsAt.cons q19 CellsAt.nil)))))))) ?_
      obtain ⟨x20, q20, x21, q21, x22, q22, x23, q23, x24, q24, h⟩ := h
      refine wpD_take (v := (Value.agg #[(Value.int .i64 x20), (Value.int .i64 x21), (Value.int .i64 x22), (Value.int .i64 x23), (Value.int .i64 x24)])) 4 (fun w => w.cell? ((Addr.mk b9 0 none).add 0) = some (Value.int .i64 x20) ∧ w.cell? ((Addr.mk b9 0 none).add 1) = some (Value.int .i64 x21) ∧ w.cell? ((Addr.mk b9 0 none).add 2) = some (Value.int .i64 x22) ∧ w.cell? ((Addr.mk b9 0 none).add 3) = some (Value.int .i64 x23) ∧ w.cell? ((Addr.mk b9 0 none).add 4) = some (Value.int .i64 x24)) rfl (by kernel_rfl) (by kernel_rfl) (by kernel_rfl) rfl rfl rfl ⟨q20, q21, q22, q23, q24⟩ (fun w ⟨q20, q21, q22, q23, q24⟩ => (x_loadN [(Value.int .i64 x20), (Value.int .i64 x21), (Value.int .i64 x22), (Value.int .i64 x23), (Value.int .i64 x24)] rfl e5 SH_52 (CellsAt.out (CellsAt.cons q20 (CellsAt.cons q21 (CellsAt.cons q22 (CellsAt.cons q23 (CellsAt.cons q24 CellsAt.nil)))))))) ?_
      refine wpD_take (v := (Value.int .i64 p2)) 5 (fun _ => True) rfl (by kernel_rfl) (by kernel_rfl) (by kernel_rfl) rfl rfl rfl trivial (fun w _ => (x_move (v := (Value.int .i64 p2)) rfl e2)) ?_
      refine wpD_all (rs := [6]) (by kernel_rfl) (by simp) (allD_cons ?_ allD_nil)
      refine stepD_enterL (L' := [(2, fun _ => True), (1, fun _ => True), (0, fun _ => True)]) rfl rfl rfl rfl (x_call (vs := [(Value.agg #[(Value.int .i64 x15), (Value.int .i64 x16), (Value.int .i64 x17), (Value.int .i64 x18), (Value.int .i64 x19)]), (Value.agg #[(Value.int .i64 x20), (Value.int .i64 x21), (Value.int .i64 x22), (Value.int .i64 x23), (Value.int .i64 x24)]), (Value.int .i64 p2)]) rfl rfl (mapl_cons rfl (mapl_cons rfl (mapl_cons rfl mapl_nil))) Tryz.func61 NN_61 NB_61) (by kernel_rfl) (Calls.mono h ?_)
      rintro _ w4 ⟨r25, rfl, h⟩
      refine ⟨_, rfl, (held_cons trivial (held_cons trivial (held_cons trivial held_nil))), ?_⟩
      refine wpD_take (v := (Value.bool r25)) 7 (fun _ => True) rfl (by kernel_rfl) (by kernel_rfl) (by kernel_rfl) rfl rfl rfl trivial (fun w _ => (x_move (v := (Value.bool r25)) rfl rfl)) ?_
      rcases Bool.eq_false_or_eq_true (r25) with hc26 | hc26
      · replace h := h.1 hc26
        refine wpD_take (v := p3) 8 (fun _ => True) rfl (by kernel_rfl) (by kernel_rfl) (by kernel_rfl) (wantG rfl rfl rfl hc26) rfl rfl trivial (fun w _ => (x_move (v := p3) rfl e3)) ?_
        refine wpD_take (v := (Value.int .i64 l10)) 9 (fun _ => True) rfl (by kernel_rfl) (by kernel_rfl) (by kernel_rfl) (wantG rfl rfl rfl hc26) rfl rfl trivial (fun w _ => (x_move (v := (Value.int .i64 l10)) rfl e9)) ?_
        refine wpD_all (rs := [10]) (by kernel_rfl) (by simp) (allD_cons ?_ allD_nil)
        obtain ⟨f27, fi27, ca27, fn27, qv27, qf27, qn27, qb27, h⟩ := h
        refine stepD_enterL (L' := [(2, fun _ => True), (1, fun _ => True), (0, fun _ => True)]) rfl (wantG rfl rfl rfl hc26) rfl rfl (x_callv (vs := [(Value.int .i64 l10)]) rfl ((show _ = p3 from rfl).trans qv27) (mapl_cons rfl mapl_nil) qf27 qn27 qb27) (by kernel_rfl) (Calls.mono h ?_)
        rintro _ w5 ⟨r27, rfl, h⟩
        refine ⟨_, rfl, (held_cons trivial (held_cons trivial (held_cons trivial held_nil))), ?_⟩
        refine wpD_take (v := (Value.bool (!r27))) 11 (fun _ => True) rfl (by kernel_rfl) (by kernel_rfl) (by kernel_rfl) (wantG rfl rfl rfl hc26) rfl rfl trivial (fun w _ => (x_not rfl rfl)) ?_
        refine wpD_take (v := (Value.bool (!r27))) 12 (fun _ => True) rfl (by kernel_rfl) (by kernel_rfl) (by kernel_rfl) rfl rfl rfl trivial (fun w _ => (x_pickT (v := (Value.bool (!r27))) rfl rfl hc26 rfl)) ?_
        exact wpD_done (by kernel_rfl) ⟨!r27, ⟨rfl, e0, e2, e3, e5, e9, trivial⟩, h⟩
      · replace h := h.2 hc26
        refine wpD_pass 8 rfl (by kernel_rfl) (by kernel_rfl) (by kernel_rfl) (wantN rfl rfl rfl hc26) rfl rfl ?_
        refine wpD_pass 9 rfl (by kernel_rfl) (by kernel_rfl) (by kernel_rfl) (wantN rfl rfl rfl hc26) rfl rfl ?_
        refine wpD_pass 10 rfl (by kernel_rfl) (by kernel_rfl) (by kernel_rfl) (wantN rfl rfl rfl hc26) rfl rfl ?_
        refine wpD_pass 11 rfl (by kernel_rfl) (by kernel_rfl) (by kernel_rfl) (wantN rfl rfl rfl hc26) rfl rfl ?_
        refine wpD_take (v := (Value.bool false)) 12 (fun _ => True) rfl (by kernel_rfl) (by kernel_rfl) (by kernel_rfl) rfl rfl rfl trivial (fun w _ => (x_pickF (v := (Value.bool false)) rfl rfl hc26 rfl)) ?_
        exact wpD_done (by kernel_rfl) ⟨false, ⟨rfl, e0, e2, e3, e5, e9, trivial⟩, h⟩
    clear h
    rintro l28 ρ w6 ⟨e29, e0, e2, e3, e5, e9, -⟩ h
    replace h := hk l28 w6 h
    clear hk
    refine wpC_cond (b := l28) e29 (fun hc29 => ?_) (fun hc29 => ?_)
    · replace h := h.1 hc29
      refine wpC_seq ?_
      refine wpC_region ?_
      refine rv (Value.int .i64 l10) w6 rfl rfl rfl (x_move rfl e9) ?_
      refine rv (Value.int .i64 l10) w6 rfl rfl rfl (x_assign rfl rfl) ?_
      refine wpR_nil ?_
      refine wpC_ret ?_
      exact ⟨.inl rfl, fun a ha => ⟨_, results_rep1 rfl ha rfl, l10, rfl, h⟩⟩
    · replace h := h.2 hc29
      refine wpC_skip ?_
      refine wpC_region ?_
      refine rv (Value.int .i64 l10) w6 rfl rfl rfl (x_move rfl e9) ?_
      refine rv (Value.int .i64 (IntKind.i64.wrap (l10 - 1))) w6 rfl rfl rfl (x_sub rfl rfl rfl) ?_
      refine rv (Value.int .i64 (IntKind.i64.wrap (l10 - 1))) w6 rfl rfl rfl (x_assign rfl rfl) ?_
      refine wpR_nil ?_
      exact ⟨IntKind.i64.wrap (l10 - 1), ⟨rfl, e0, e2, e3, e5, trivial⟩, h⟩
  · replace h := h.2 hc11
    refine wpC_exit ?_
    refine wpC_seq ?_
    refine wpC_cut (fun ρ => True) trivial ?_
    rintro ρ -
    refine wpC_region ?_
    refine rv (Value.int .i64 (-1)) w2 rfl rfl rfl (x_assign rfl rfl) ?_
    refine wpR_nil ?_
    refine wpC_ret ?_
    exact ⟨.inl rfl, fun a ha => ⟨_, results_rep1 rfl ha rfl, (-1), rfl, h⟩⟩

/-- echo.Match$1 -/
def F37 (p0 : Int) (w0 : World) (K : Bool → World → Prop) : Prop :=
  K false w0
set_option maxRecDepth 100000 in
theorem D37 (p0 : Int) (w0 : World) (K : Bool → World → Prop) (h : F37 p0 w0 K) : callC Tryz.prog 37 #[(Value.int .i64 p0)] (fun (r : Bool) => (Value.bool r)) w0 K := by
  unfold F37 at h
  refine calls_of_wpC Tryz.func37 rfl 3 rfl (by simp) ?_
  intro ρ hρ
  have e0 : ρ 0 = (Value.int .i64 p0) := hρ 0
  clear hρ
  refine wpC_seq ?_
  refine wpC_region ?_
  refine rv (Value.bool false) w0 rfl rfl rfl (x_assign rfl rfl) ?_
  refine wpR_nil ?_
  refine wpC_seq ?_
  refine wpC_cut (fun ρ => True) trivial ?_
  rintro ρ -
  refine wpC_region ?_
  refine rv (Value.bool false) w0 rfl rfl rfl (x_assign rfl rfl) ?_
  refine wpR_nil ?_
  refine wpC_ret ?_
  exact ⟨.inl rfl, fun a ha => ⟨_, results_rep1 rfl ha rfl, false, rfl, h⟩⟩

/-- event.below -/
def F38 (p0 : Int) (p1 : Int) (w0 : World) (K : Bool → World → Prop) : Prop :=
  K ((decide (0 ≤ p0)) && (decide (p0 < p1))) w0
set_option maxRecDepth 100000 in
theorem D38 (p0 : Int) (p1 : Int) (w0 : World) (K : Bool → World → Prop) (h : F38 p0 p1 w0 K) : callC Tryz.prog 38 #[(Value.int .i64 p0), (Value.int .i64 p1)] (fun (r : Bool) => (Value.bool r)) w0 K := by
  unfold F38 at h
  refine calls_of_wpC Tryz.func38 rfl 12 rfl (by simp) ?_
  intro ρ hρ
  have e0 : ρ 0 = (Value.int .i64 p0) := hρ 0
  have e1 : ρ 1 = (Value.int .i64 p1) := hρ 1
  clear hρ
  refine wpC_seq ?_
  refine wpC_region ?_
  refine rv (Value.bool false) w0 rfl rfl rfl (x_assign rfl rfl) ?_
  refine wpR_nil ?_
  refine wpC_seq ?_
  refine wpC_cut (fun ρ => ρ 0 = (Value.int .i64 p0) ∧ ρ 1 = (Value.int .i64 p1) ∧ True) ⟨e0, e1, trivial⟩ ?_
  rintro ρ ⟨e0, e1, -⟩
  refine wpC_region ?_
  refine rv (Value.int .i64 p0) w0 rfl rfl rfl (x_move rfl e0) ?_
  refine rv (Value.bool (decide (0 ≤ p0))) w0 rfl rfl rfl (x_leq rfl rfl rfl) ?_
  refine rv (Value.bool (decide (0 ≤ p0))) w0 rfl rfl rfl (x_move rfl rfl) ?_
  refine wpR_joinJ 4 (fun (_ : Unit) ρ => ρ 11 = Value.bool ((decide (0 ≤ p0)) && (decide (p0 < p1))) ∧ True) (fun _ w => w0 = w) ?_ ?_
  · clear h
    rcases Bool.eq_false_or_eq_true (decide (0 ≤ p0)) with hc10 | hc10
    · skip
      refine wpR_val (v := (Value.int .i64 p0)) (w' := w0) (wantG rfl rfl rfl hc10) rfl rfl (x_move rfl e0) ?_
      refine wpR_val (v := (Value.int .i64 p1)) (w' := w0) (wantG rfl rfl rfl hc10) rfl rfl (x_move rfl e1) ?_
      refine wpR_val (v := (Value.bool (decide (p0 < p1)))) (w' := w0) (wantG rfl rfl rfl hc10) rfl rfl (x_lss rfl rfl rfl) ?_
      refine rv (Value.bool (decide (p0 < p1))) w0 rfl rfl rfl (x_pickT (v := (Value.bool (decide (p0 < p1)))) rfl rfl hc10 rfl) ?_
      refine wpR_nil ?_
      exact ⟨(), ⟨(by rw [hc10]; rfl), trivial⟩, rfl⟩
    · skip
      refine wpR_pass (wantN rfl rfl rfl hc10) rfl rfl ?_
      refine wpR_pass (wantN rfl rfl rfl hc10) rfl rfl ?_
      refine wpR_pass (wantN rfl rfl rfl hc10) rfl rfl ?_
      refine rv (Value.bool false) w0 rfl rfl rfl (x_pickF (v := (Value.bool false)) rfl rfl hc10 rfl) ?_
      refine wpR_nil ?_
      exact ⟨(), ⟨(by rw [hc10]; rfl), trivial⟩, rfl⟩
  rintro _ ρ wj ⟨e11, -⟩ rfl
  refine rv (Value.bool ((decide (0 ≤ p0)) && (decide (p0 < p1)))) w0 rfl rfl rfl (x_assign rfl e11) ?_
  refine wpR_nil ?_
  refine wpC_ret ?_
  exact ⟨.inl rfl, fun a ha => ⟨_, results_rep1 rfl ha rfl, (decide (0 ≤ p0)) && (decide (p0 < p1)), rfl, h⟩⟩

/-- slices.Clone[[]api.Waiting,api.Waiting] -/
def F42 (p0 : Sl) (w0 : World) (K : Sl → World → Prop) : Prop :=
  cnd (p0.a.isNone)
    (
    K Sl.nil w0
    )
    (
    nw 70 #[] w0 fun b10 w1 =>
    rn Tryz.prog (Builtin.append_ #[66, 66] 66 #[Sl.v (⟨some ⟨b10, 0, none⟩, 0, 0⟩ : Sl), Sl.v p0]) Sl.v w1 fun r11 w2 =>
    K r11 w2
    )
set_option maxRecDepth 100000 in
theorem D42 (p0 : Sl) (w0 : World) (K : Sl → World → Prop) (h : F42 p0 w0 K) : callC Tryz.prog 42 #[(Sl.v p0)] (fun (r : Sl) => (Sl.v r)) w0 K := by
  unfold F42 at h
  refine calls_of_wpC Tryz.func42 rfl 8 rfl (by simp) ?_
  intro ρ hρ
  have e0 : ρ 0 = (Sl.v p0) := hρ 0
  clear hρ
  refine wpC_seq ?_
  refine wpC_region ?_
  refine rv (Sl.v Sl.nil) w0 rfl rfl rfl (x_assign rfl rfl) ?_
  refine wpR_nil ?_
  refine wpC_seq ?_
  refine wpC_seq ?_
  refine wpC_cut (fun ρ => ρ 0 = (Sl.v p0) ∧ True) ⟨e0, trivial⟩ ?_
  rintro ρ ⟨e0, -⟩
  refine wpC_region ?_
  refine rv (Sl.v p0) w0 rfl rfl rfl (x_move rfl e0) ?_
  refine rv (Value.bool p0.a.isNone) w0 rfl rfl rfl (x_eqlNilS (s := p0) rfl rfl rfl isSliceT_66) ?_
  refine wpR_nil ?_
  refine wpC_cond (b := p0.a.isNone) rfl (fun hc9 => ?_) (fun hc9 => ?_)
  · replace h := h.1 hc9
    refine wpC_seq ?_
    refine wpC_cut (fun ρ => True) trivial ?_
    rintro ρ -
    refine wpC_region ?_
    refine rv (Sl.v Sl.nil) w0 rfl rfl rfl (x_assign rfl rfl) ?_
    refine wpR_nil ?_
    refine wpC_ret ?_
    exact ⟨.inl rfl, fun a ha => ⟨_, results_rep1 rfl ha rfl, Sl.nil, rfl, h⟩⟩
  · replace h := h.2 hc9
    refine wpC_skip ?_
    refine wpC_seq ?_
    refine wpC_cut (fun ρ => ρ 0 = (Sl.v p0) ∧ True) ⟨e0, trivial⟩ ?_
    rintro ρ ⟨e0, -⟩
    refine wpC_region ?_
    obtain ⟨b10, hb10⟩ : ∃ u, u = w0.heap.size := ⟨_, rfl⟩
    obtain ⟨w1, hw10⟩ : ∃ u, u = w0.alloc (.cells #[] 70) := ⟨_, rfl⟩
    replace h := h b10 w1 hb10 hw10
    refine rv (Sl.v (⟨some ⟨b10, 0, none⟩, 0, 0⟩ : Sl)) w1 rfl rfl rfl ((x_buildSlice (qs := []) rfl (by rfl) (BS_66_0_ )).trans (by rw [← hb10, ← hw10])) ?_
    refine rv (Sl.v p0) w1 rfl rfl rfl (x_move rfl e0) ?_
    obtain ⟨r11, w2, q11, h⟩ := h
    refine rv (Sl.v r11) w2 rfl rfl rfl (x_append (s := (⟨some ⟨b10, 0, none⟩, 0, 0⟩ : Sl)) (u := p0) rfl rfl rfl rfl q11) ?_
    refine rv (Sl.v r11) w2 rfl rfl rfl (x_assign rfl rfl) ?_
    refine wpR_nil ?_
    refine wpC_ret ?_
    exact ⟨.inl rfl, fun a ha => ⟨_, results_rep1 rfl ha rfl, r11, rfl, h⟩⟩

/-- queue.queue -/
def F43 (p0 : Sl) (w0 : World) (K : Bool → World → Prop) : Prop :=
  lp (fun (next9 : Int → World → Prop) l9 w1 =>
    cnd (decide (l9 < (p0.len : Int)))
      (
      ix p0 l9 4 fun p11 =>
      ld (Value.int .i64) (p11.add 0) w1 fun x12 =>
      ld (Value.int .i64) (p11.add 1) w1 fun x13 =>
      ld (Value.int .i64) (p11.add 2) w1 fun x14 =>
      ld (Value.int .i64) (p11.add 3) w1 fun x15 =>
      nw 70 #[(Value.int .i64 0), (Value.int .i64 0), (Value.int .i64 0), (Value.int .i64 0)] w1 fun b16 w2 =>
      st (Addr.mk b16 0 none) [(Value.int .i64 x12), (Value.int .i64 x13), (Value.int .i64 x14), (Value.int .i64 x15)] w2 fun w3 =>
      jn (fun (J19 : Bool → World → Prop) => tk w3 fun w4 =>
        ld (Value.int .i64) ((Addr.mk b16 0 none).add 0) w4 fun x20 =>
        ld (Value.int .i64) ((Addr.mk b16 0 none).add 1) w4 fun x21 =>
        ld (Value.int .i64) ((Addr.mk b16 0 none).add 2) w4 fun x22 =>
        ld (Value.int .i64) ((Addr.mk b16 0 none).add 3) w4 fun x23 =>
        callC Tryz.prog 44 #[(Value.agg #[(Value.int .i64 x20), (Value.int .i64 x21), (Value.int .i64 x22), (Value.int .i64 x23)])] (fun (r : Bool) => (Value.bool r)) w4 fun r24 w5 =>
        cnd (!r24)
          (
          J19 true w5
          )
          (
          ld (Value.int .i64) ((Addr.mk b16 0 none).add 0) w5 fun x26 =>
          ld (Value.int .i64) ((Addr.mk b16 0 none).add 1) w5 fun x27 =>
          rn Tryz.prog (Instr.sliceAt 66 (Sl.v p0) none (some (Value.int .i64 l9)) none) (fun (r : Sl) => (Sl.v r)) w5 fun r28 w6 =>
          (w6.cell? ((Addr.mk b16 0 none).add 1) = some (Value.int .i64 x27)) ∧
          (w6.cell? ((Addr.mk b16 0 none).add 0) = some (Value.int .i64 x26)) ∧
          callC Tryz.prog 45 #[(Sl.v r28), (Value.int .i64 x26), (Value.int .i64 x27)] (fun (r : Bool) => (Value.bool r)) w6 fun r29 w7 =>
          J19 r29 w7
          )
      )
      fun l30 w8 =>
      cnd (l30)
        (
        K false w8
        )
        (
        next9 (IntKind.i64.wrap (l9 + 1)) w8
        )
      )
      (
      K true w1
      )
  ) 0 w0
set_option maxRecDepth 100000 in
theorem D43 (p0 : Sl) (w0 : World) (K : Bool → World → Prop) (h : F43 p0 w0 K) : callC Tryz.prog 43 #[(Sl.v p0)] (fun (r : Bool) => (Value.bool r)) w0 K := by
  unfold F43 at h
  refine calls_of_wpC Tryz.func43 rfl 26 rfl (by simp) ?_
  intro ρ hρ
  have e0 : ρ 0 = (Sl.v p0) := hρ 0
  clear hρ
  refine wpC_seq ?_
  refine wpC_region ?_
  refine rv (Value.bool false) w0 rfl rfl rfl (x_assign rfl rfl) ?_
  refine wpR_nil ?_
  refine wpC_seq ?_
  refine wpC_seq ?_
  refine wpC_cut (fun ρ => ρ 0 = (Sl.v p0) ∧ True) ⟨e0, trivial⟩ ?_
  rintro ρ ⟨e0, -⟩
  refine wpC_region ?_
  refine rv (Sl.v p0) w0 rfl rfl rfl (x_move rfl e0) ?_
  refine rv (Value.int .i64 (p0.len : Int)) w0 rfl rfl rfl (x_lenS (s := p0) rfl rfl isSliceT_66) ?_
  refine rv (Value.int .i64 0) w0 rfl rfl rfl (x_move rfl rfl) ?_
  refine wpR_nil ?_
  refine wpC_block ?_
  obtain ⟨I9, μ9, hI9, hr9⟩ := h
  refine wpC_loop (fun (x : Int) ρ => ρ 7 = (Value.int .i64 x) ∧ ρ 0 = (Sl.v p0) ∧ ρ 5 = (Sl.v p0) ∧ ρ 6 = (Value.int .i64 (p0.len : Int)) ∧ True) I9 μ9 0 ⟨rfl, e0, rfl, rfl, trivial⟩ hI9 ?_
  rintro l9 ρ w1 ⟨e7, e0, e5, e6, -⟩ h
  replace h := hr9 l9 w1 h
  clear hr9 hI9
  refine wpC_seq ?_
  refine wpC_region ?_
  refine rv (Value.bool (decide (l9 < (p0.len : Int)))) w1 rfl rfl rfl (x_lss rfl e7 e6) ?_
  refine wpR_nil ?_
  refine wpC_seq ?_
  refine wpC_cond (b := decide (l9 < (p0.len : Int))) rfl (fun hc10 => ?_) (fun hc10 => ?_)
  · replace h := h.1 hc10
    refine wpC_skip ?_
    refine wpC_seq ?_
    refine wpC_block ?_
    refine wpC_seq ?_
    refine wpC_cut (fun ρ => ρ 0 = (Sl.v p0) ∧ ρ 5 = (Sl.v p0) ∧ ρ 6 = (Value.int .i64 (p0.len : Int)) ∧ ρ 7 = (Value.int .i64 l9) ∧ True) ⟨e0, e5, e6, e7, trivial⟩ ?_
    rintro ρ ⟨e0, e5, e6, e7, -⟩
    refine wpC_region ?_
    refine rv (Value.int .i64 l9) w1 rfl rfl rfl (x_move rfl e7) ?_
    obtain ⟨q11, z11, r11, h⟩ := h
    generalize hp11 : z11.add ((l9 : Int).toNat * 4) = p11 at h
    refine rv (Value.pointer (some p11)) w1 rfl rfl rfl ((x_indexAddr (s := p0) rfl e5 e7 ES_66 q11 r11).trans (by rw [hp11])) ?_
    obtain ⟨x12, q12, x13, q13, x14, q14, x15, q15, h⟩ := h
    refine rv (Value.agg #[(Value.int .i64 x12), (Value.int .i64 x13), (Value.int .i64 x14), (Value.int .i64 x15)]) w1 rfl rfl rfl (x_loadN [(Value.int .i64 x12), (Value.int .i64 x13), (Value.int .i64 x14), (Value.int .i64 x15)] rfl rfl SH_70 (CellsAt.out (CellsAt.cons q12 (CellsAt.cons q13 (CellsAt.cons q14 (CellsAt.cons q15 CellsAt.nil)))))) ?_
    obtain ⟨b16, hb16⟩ : ∃ u, u = w1.heap.size := ⟨_, rfl⟩
    obtain ⟨w2, hw16⟩ : ∃ u, u = w1.alloc (.cells #[(Value.int .i64 0), (Value.int .i64 0), (Value.int .i64 0), (Value.int .i64 0)] 70) := ⟨_, rfl⟩
    replace h := h b16 w2 hb16 hw16
    refine rv (Value.pointer (some (Addr.mk b16 0 none))) w2 rfl rfl rfl ((x_alloc rfl ZV_70).trans (by rw [hb16, hw16]; rfl)) ?_
    refine rv (Value.int .i64 l9) w2 rfl rfl rfl (x_assign rfl rfl) ?_
    obtain ⟨q17, h⟩ := h
    obtain ⟨w3, hw17⟩ : ∃ u, u = setAll w2 (Addr.mk b16 0 none) [(Value.int .i64 x12), (Value.int .i64 x13), (Value.int .i64 x14), (Value.int .i64 x15)] 0 := ⟨_, rfl⟩
    replace h := h w3 hw17
    refine wpR_skp (w' := w3) rfl rfl ((x_store (v := (Value.agg #[(Value.int .i64 x12), (Value.int .i64 x13), (Value.int .i64 x14), (Value.int .i64 x15)])) rfl rfl rfl SZ_70 (ones (by rfl)) q17).trans (by rw [hw17]; rfl)) ?_
    refine wpR_nil ?_
    refine wpC_seq ?_
    refine wpC_cut (fun ρ => ρ 0 = (Sl.v p0) ∧ ρ 3 = (Value.int .i64 l9) ∧ ρ 4 = (Value.pointer (some (Addr.mk b16 0 none))) ∧ ρ 5 = (Sl.v p0) ∧ ρ 6 = (Value.int .i64 (p0.len : Int)) ∧ ρ 7 = (Value.int .i64 l9) ∧ True) ⟨e0, rfl, rfl, e5, e6, e7, trivial⟩ ?_
    rintro ρ ⟨e0, e3, e4, e5, e6, e7, -⟩
    obtain ⟨J19, h, hk⟩ := h
    refine wpC_drawJ (by kernel_rfl) (fun (x : Bool) ρ => ρ 24 = (Value.bool x) ∧ ρ 0 = (Sl.v p0) ∧ ρ 5 = (Sl.v p0) ∧ ρ 6 = (Value.int .i64 (p0.len : Int)) ∧ ρ 7 = (Value.int .i64 l9) ∧ True) J19 ?_ ?_
    · clear hk
      unfold tk at h
      generalize w3.drew = w4 at h ⊢
      obtain ⟨x20, q20, x21, q21, x22, q22, x23, q23, h⟩ := h
      refine wpD_take (v := (Value.agg #[(Value.int .i64 x20), (Value.int .i64 x21), (Value.int .i64 x22), (Value.int .i64 x23)])) 0 (fun w => w.cell? ((Addr.mk b16 0 none).add 0) = some (Value.int .i64 x20) ∧ w.cell? ((Addr.mk b16 0 none).add 1) = some (Value.int .i64 x21) ∧ w.cell? ((Addr.mk b16 0 none).add 2) = some (Value.int .i64 x22) ∧ w.cell? ((Addr.mk b16 0 none).add 3) = some (Value.int .i64 x23)) rfl (by kernel_rfl) (by kernel_rfl) (by kernel_rfl) rfl rfl rfl ⟨q20, q21, q22, q23⟩ (fun w ⟨q20, q21, q22, q23⟩ => (x_loadN [(Value.int .i64 x20), (Value.int .i64 x21), (Value.int .i64 x22), (Value.int .i64 x23)] rfl e4 SH_70 (CellsAt.out (CellsAt.cons q20 (CellsAt.cons q21 (CellsAt.cons q22 (CellsAt.cons q23 CellsAt.nil))))))) ?_
      refine wpD_all (rs := [1]) (by kernel_rfl) (by simp) (allD_cons ?_ allD_nil)
      refine stepD_enterL (L' := []) rfl rfl rfl rfl (x_call (vs := [(Value.agg #[(Value.int .i64 x20), (Value.int .i64 x21), (Value.int .i64 x22), (Value.int .i64 x23)])]) rfl rfl (mapl_cons rfl mapl_nil) Tryz.func44 NN_44 NB_44) (by kernel_rfl) (Calls.mono h ?_)
      rintro _ w5 ⟨r24, rfl, h⟩
      refine ⟨_, rfl, held_nil, ?_⟩
      refine wpD_take (v := (Value.bool (!r24))) 2 (fun _ => True) rfl (by kernel_rfl) (by kernel_rfl) (by kernel_rfl) rfl rfl rfl trivial (fun w _ => (x_not rfl rfl)) ?_
      refine wpD_take (v := (Value.bool (!r24))) 3 (fun _ => True) rfl (by kernel_rfl) (by kernel_rfl) (by kernel_rfl) rfl rfl rfl trivial (fun w _ => (x_move (v := (Value.bool (!r24))) rfl rfl)) ?_
      rcases Bool.eq_false_or_eq_true (!r24) with hc25 | hc25
      · replace h := h.1 hc25
        refine wpD_pass 4 rfl (by kernel_rfl) (by kernel_rfl) (by kernel_rfl) (wantN rfl rfl rfl hc25) rfl rfl ?_
        refine wpD_pass 5 rfl (by kernel_rfl) (by kernel_rfl) (by kernel_rfl) (wantN rfl rfl rfl hc25) rfl rfl ?_
        refine wpD_pass 6 rfl (by kernel_rfl) (by kernel_rfl) (by kernel_rfl) (wantN rfl rfl rfl hc25) rfl rfl ?_
        refine wpD_pass 7 rfl (by kernel_rfl) (by kernel_rfl) (by kernel_rfl) (wantN rfl rfl rfl hc25) rfl rfl ?_
        refine wpD_pass 8 rfl (by kernel_rfl) (by kernel_rfl) (by kernel_rfl) (wantN rfl rfl rfl hc25) rfl rfl ?_
        refine wpD_pass 9 rfl (by kernel_rfl) (by kernel_rfl) (by kernel_rfl) (wantN rfl rfl rfl hc25) rfl rfl ?_
        refine wpD_pass 10 rfl (by kernel_rfl) (by kernel_rfl) (by kernel_rfl) (wantN rfl rfl rfl hc25) rfl rfl ?_
        refine wpD_pass 11 rfl (by kernel_rfl) (by kernel_rfl) (by kernel_rfl) (wantN rfl rfl rfl hc25) rfl rfl ?_
        refine wpD_take (v := (Value.bool true)) 12 (fun _ => True) rfl (by kernel_rfl) (by kernel_rfl) (by kernel_rfl) rfl rfl rfl trivial (fun w _ => (x_pickT (v := (Value.bool true)) rfl rfl hc25 rfl)) ?_
        exact wpD_done (by kernel_rfl) ⟨true, ⟨rfl, e0, e5, e6, e7, trivial⟩, h⟩
      · replace h := h.2 hc25
        refine wpD_take (v := (Sl.v p0)) 4 (fun _ => True) rfl (by kernel_rfl) (by kernel_rfl) (by kernel_rfl) (wantG rfl rfl rfl hc25) rfl rfl trivial (fun w _ => (x_move (v := (Sl.v p0)) rfl e0)) ?_
        refine wpD_take (v := (Value.int .i64 l9)) 5 (fun _ => True) rfl (by kernel_rfl) (by kernel_rfl) (by kernel_rfl) (wantG rfl rfl rfl hc25) rfl rfl trivial (fun w _ => (x_move (v := (Value.int .i64 l9)) rfl e3)) ?_
        refine wpD_take (v := (Value.pointer (some ((Addr.mk b16 0 none).add 0)))) 7 (fun _ => True) rfl (by kernel_rfl) (by kernel_rfl) (by kernel_rfl) (wantG rfl rfl rfl hc25) rfl rfl trivial (fun w _ => (x_fieldAddr rfl e4 FA_70_0)) ?_
        obtain ⟨x26, q26, h⟩ := h
        refine wpD_take (v := (Value.int .i64 x26)) 8 (fun w => w.cell? ((Addr.mk b16 0 none).add 0) = some (Value.int .i64 x26)) rfl (by kernel_rfl) (by kernel_rfl) (by kernel_rfl) (wantG rfl rfl rfl hc25) rfl rfl q26 (fun w q26 => (x_load1 rfl rfl SH_3 q26)) ?_
        refine wpD_take (v := (Value.pointer (some ((Addr.mk b16 0 none).add 1)))) 9 (fun _ => True) rfl (by kernel_rfl) (by kernel_rfl) (by kernel_rfl) (wantG rfl rfl rfl hc25) rfl rfl trivial (fun w _ => (x_fieldAddr rfl e4 FA_70_1)) ?_
        obtain ⟨x27, q27, h⟩ := h
        refine wpD_take (v := (Value.int .i64 x27)) 10 (fun w => w.cell? ((Addr.mk b16 0 none).add 1) = some (Value.int .i64 x27)) rfl (by kernel_rfl) (by kernel_rfl) (by kernel_rfl) (wantG rfl rfl rfl hc25) rfl rfl q27 (fun w q27 => (x_load1 rfl rfl SH_3 q27)) ?_
        refine wpD_all (rs := [6]) (by kernel_rfl) (by simp) (allD_cons ?_ allD_nil)
        obtain ⟨r28, w6, q28, h⟩ := h
        obtain ⟨o10, h⟩ := h
        obtain ⟨o8, h⟩ := h
        refine stepD_valL (L' := [(10, fun w => w.cell? ((Addr.mk b16 0 none).add 1) = some (Value.int .i64 x27)), (9, fun _ => True), (8, fun w => w.cell? ((Addr.mk b16 0 none).add 0) = some (Value.int .i64 x26)), (7, fun _ => True), (2, fun _ => True)]) (v := (Sl.v r28)) (w' := w6) rfl (wantG rfl rfl rfl hc25) rfl rfl (x_sliceAt rfl rfl rfl (congrArg some rfl) rfl q28) (by kernel_rfl) (held_cons o10 (held_cons trivial (held_cons o8 (held_cons trivial (held_cons trivial held_nil))))) ?_
        refine wpD_all (rs := [11]) (by kernel_rfl) (by simp) (allD_cons ?_ allD_nil)
        refine stepD_enterL (L' := [(9, fun _ => True), (7, fun _ => True), (2, fun _ => True)]) rfl (wantG rfl rfl rfl hc25) rfl rfl (x_call (vs := [(Sl.v r28), (Value.int .i64 x26), (Value.int .i64 x27)]) rfl rfl (mapl_cons rfl (mapl_cons rfl (mapl_cons rfl mapl_nil))) Tryz.func45 NN_45 NB_45) (by kernel_rfl) (Calls.mono h ?_)
        rintro _ w7 ⟨r29, rfl, h⟩
        refine ⟨_, rfl, (held_cons trivial (held_cons trivial (held_cons trivial held_nil))), ?_⟩
        refine wpD_take (v := (Value.bool r29)) 12 (fun _ => True) rfl (by kernel_rfl) (by kernel_rfl) (by kernel_rfl) rfl rfl rfl trivial (fun w _ => (x_pickF (v := (Value.bool r29)) rfl rfl hc25 rfl)) ?_
        exact wpD_done (by kernel_rfl) ⟨r29, ⟨rfl, e0, e5, e6, e7, trivial⟩, h⟩
    clear h
    rintro l30 ρ w8 ⟨e24, e0, e5, e6, e7, -⟩ h
    replace h := hk l30 w8 h
    clear hk
    refine wpC_cond (b := l30) e24 (fun hc31 => ?_) (fun hc31 => ?_)
    · replace h := h.1 hc31
      refine wpC_seq ?_
      refine wpC_region ?_
      refine rv (Value.bool false) w8 rfl rfl rfl (x_assign rfl rfl) ?_
      refine wpR_nil ?_
      refine wpC_ret ?_
      exact ⟨.inl rfl, fun a ha => ⟨_, results_rep1 rfl ha rfl, false, rfl, h⟩⟩
    · replace h := h.2 hc31
      refine wpC_skip ?_
      refine wpC_region ?_
      refine rv (Value.int .i64 (IntKind.i64.wrap (l9 + 1))) w8 rfl rfl rfl (x_add rfl e7 rfl) ?_
      refine rv (Value.int .i64 (IntKind.i64.wrap (l9 + 1))) w8 rfl rfl rfl (x_move rfl rfl) ?_
      refine wpR_nil ?_
      exact ⟨IntKind.i64.wrap (l9 + 1), ⟨rfl, e0, e5, e6, trivial⟩, h⟩
  · replace h := h.2 hc10
    refine wpC_exit ?_
    refine wpC_seq ?_
    refine wpC_cut (fun ρ => True) trivial ?_
    rintro ρ -
    refine wpC_region ?_
    refine rv (Value.bool true) w1 rfl rfl rfl (x_assign rfl rfl) ?_
    refine wpR_nil ?_
    refine wpC_ret ?_
    exact ⟨.inl rfl, fun a ha => ⟨_, results_rep1 rfl ha rfl, true, rfl, h⟩⟩

/-- queue.right -/
def F44 (p0_0 : Int) (p0_1 : Int) (p0_2 : Int) (p0_3 : Int) (w0 : World) (K : Bool → World → Prop) : Prop :=
  nw 70 #[(Value.int .i64 p0_0), (Value.int .i64 p0_1), (Value.int .i64 p0_2), (Value.int .i64 p0_3)] w0 fun b9 w1 =>
  ld (Value.int .i64) ((Addr.mk b9 0 none).add 0) w1 fun x10 =>
  callC Tryz.prog 66 #[(Value.int .i64 x10), (Value.int .i64 0), (Value.int .i64 99999)] (fun (r : Bool) => (Value.bool r)) w1 fun r11 w2 =>
  jn (fun J12 => cnd (r11)
    (
    ld (Value.int .i64) ((Addr.mk b9 0 none).add 1) w2 fun x14 =>
    callC Tryz.prog 66 #[(Value.int .i64 x14), (Value.int .i64 0), (Value.int .i64 11)] (fun (r : Bool) => (Value.bool r)) w2 fun r15 w3 =>
    J12 r15 w3
    )
    (
    J12 false w2
    ))
  fun c16 w4 =>
  jn (fun J17 => cnd (c16)
    (
    ld (Value.int .i64) ((Addr.mk b9 0 none).add 2) w4 fun x19 =>
    callC Tryz.prog 66 #[(Value.int .i64 x19), (Value.int .i64 1), (Value.int .i64 1099511627776)] (fun (r : Bool) => (Value.bool r)) w4 fun r20 w5 =>
    J17 r20 w5
    )
    (
    J17 false w4
    ))
  fun c21 w6 =>
  jn (fun J22 => cnd (c21)
    (
    ld (Value.int .i64) ((Addr.mk b9 0 none).add 3) w6 fun x24 =>
    callC Tryz.prog 66 #[(Value.int .i64 x24), (Value.int .i64 0), (Value.int .i64 1073741824)] (fun (r : Bool) => (Value.bool r)) w6 fun r25 w7 =>
    J22 r25 w7
    )
    (
    J22 false w6
    ))
  fun c26 w8 =>
  K c26 w8
set_option maxRecDepth 100000 in
theorem D44 (p0_0 : Int) (p0_1 : Int) (p0_2 : Int) (p0_3 : Int) (w0 : World) (K : Bool → World → Prop) (h : F44 p0_0 p0_1 p0_2 p0_3 w0 K) : callC Tryz.prog 44 #[(Value.agg #[(Value.int .i64 p0_0), (Value.int .i64 p0_1), (Value.int .i64 p0_2), (Value.int .i64 p0_3)])] (fun (r : Bool) => (Value.bool r)) w0 K := by
  unfold F44 at h
  refine calls_of_wpC Tryz.func44 rfl 21 rfl (by simp) ?_
  intro ρ hρ
  have e0 : ρ 0 = (Value.agg #[(Value.int .i64 p0_0), (Value.int .i64 p0_1), (Value.int .i64 p0_2), (Value.int .i64 p0_3)]) := hρ 0
  clear hρ
  refine wpC_seq ?_
  refine wpC_region ?_
  obtain ⟨b9, hb9⟩ : ∃ u, u = w0.heap.size := ⟨_, rfl⟩
  obtain ⟨w1, hw9⟩ : ∃ u, u = w0.alloc (.cells #[(Value.int .i64 p0_0), (Value.int .i64 p0_1), (Value.int .i64 p0_2), (Value.int .i64 p0_3)] 70) := ⟨_, rfl⟩
  replace h := h b9 w1 hb9 hw9
  refine rv (Value.pointer (some (Addr.mk b9 0 none))) w1 rfl rfl rfl ((x_box (v := (Value.agg #[(Value.int .i64 p0_0), (Value.int .i64 p0_1), (Value.int .i64 p0_2), (Value.int .i64 p0_3)])) rfl e0).trans (by rw [hb9, hw9]; rfl)) ?_
  refine rv (Value.bool false) w1 rfl rfl rfl (x_assign rfl rfl) ?_
  refine wpR_nil ?_
  refine wpC_seq ?_
  refine wpC_cut (fun ρ => ρ 1 = (Value.pointer (some (Addr.mk b9 0 none))) ∧ True) ⟨rfl, trivial⟩ ?_
  rintro ρ ⟨e1, -⟩
  refine wpC_region ?_
  refine rv (Value.pointer (some ((Addr.mk b9 0 none).add 0))) w1 rfl rfl rfl (x_fieldAddr rfl e1 FA_70_0) ?_
  obtain ⟨x10, q10, h⟩ := h
  refine rv (Value.int .i64 x10) w1 rfl rfl rfl (x_load1 rfl rfl SH_3 q10) ?_
  refine wpR_enter rfl rfl rfl (x_call (vs := [(Value.int .i64 x10), (Value.int .i64 0), (Value.int .i64 99999)]) rfl rfl (mapl_cons rfl (mapl_cons rfl (mapl_cons rfl mapl_nil))) Tryz.func66 NN_66 NB_66) (Calls.mono h ?_)
  rintro _ w2 ⟨r11, rfl, h⟩
  refine ⟨_, rfl, ?_⟩
  refine rv (Value.bool r11) w2 rfl rfl rfl (x_move rfl rfl) ?_
  obtain ⟨J12, h, hk⟩ := h
  refine wpR_joinJ 4 (fun x ρ => ρ 10 = Value.bool x ∧ ρ 1 = (Value.pointer (some (Addr.mk b9 0 none))) ∧ True) (J12) ?_ ?_
  · clear hk
    rcases Bool.eq_false_or_eq_true (r11) with hc13 | hc13
    · replace h := h.1 hc13
      refine wpR_val (v := (Value.pointer (some ((Addr.mk b9 0 none).add 1)))) (w' := w2) (wantG rfl rfl rfl hc13) rfl rfl (x_fieldAddr rfl e1 FA_70_1) ?_
      obtain ⟨x14, q14, h⟩ := h
      refine wpR_val (v := (Value.int .i64 x14)) (w' := w2) (wantG rfl rfl rfl hc13) rfl rfl (x_load1 rfl rfl SH_3 q14) ?_
      refine wpR_enter (wantG rfl rfl rfl hc13) rfl rfl (x_call (vs := [(Value.int .i64 x14), (Value.int .i64 0), (Value.int .i64 11)]) rfl rfl (mapl_cons rfl (mapl_cons rfl (mapl_cons rfl mapl_nil))) Tryz.func66 NN_66 NB_66) (Calls.mono h ?_)
      rintro _ w3 ⟨r15, rfl, h⟩
      refine ⟨_, rfl, ?_⟩
      refine rv (Value.bool r15) w3 rfl rfl rfl (x_pickT (v := (Value.bool r15)) rfl rfl hc13 rfl) ?_
      refine wpR_nil ?_
      exact ⟨r15, ⟨rfl, e1, trivial⟩, h⟩
    · replace h := h.2 hc13
      refine wpR_pass (wantN rfl rfl rfl hc13) rfl rfl ?_
      refine wpR_pass (wantN rfl rfl rfl hc13) rfl rfl ?_
      refine wpR_pass (wantN rfl rfl rfl hc13) rfl rfl ?_
      refine rv (Value.bool false) w2 rfl rfl rfl (x_pickF (v := (Value.bool false)) rfl rfl hc13 rfl) ?_
      refine wpR_nil ?_
      exact ⟨false, ⟨rfl, e1, trivial⟩, h⟩
  clear h
  rintro c16 ρ w4 ⟨e10, e1, -⟩ h
  replace h := hk c16 w4 h
  clear hk
  refine rv (Value.bool c16) w4 rfl rfl rfl (x_move rfl e10) ?_
  obtain ⟨J17, h, hk⟩ := h
  refine wpR_joinJ 4 (fun x ρ => ρ 15 = Value.bool x ∧ ρ 1 = (Value.pointer (some (Addr.mk b9 0 none))) ∧ True) (J17) ?_ ?_
  · clear hk
    rcases Bool.eq_false_or_eq_true (c16) with hc18 | hc18
    · replace h := h.1 hc18
      refine wpR_val (v := (Value.pointer (some ((Addr.mk b9 0 none).add 2)))) (w' := w4) (wantG rfl rfl rfl hc18) rfl rfl (x_fieldAddr rfl e1 FA_70_2) ?_
      obtain ⟨x19, q19, h⟩ := h
      refine wpR_val (v := (Value.int .i64 x19)) (w' := w4) (wantG rfl rfl rfl hc18) rfl rfl (x_load1 rfl rfl SH_3 q19) ?_
      refine wpR_enter (wantG rfl rfl rfl hc18) rfl rfl (x_call (vs := [(Value.int .i64 x19), (Value.int .i64 1), (Value.int .i64 1099511627776)]) rfl rfl (mapl_cons rfl (mapl_cons rfl (mapl_cons rfl mapl_nil))) Tryz.func66 NN_66 NB_66) (Calls.mono h ?_)
      rintro _ w5 ⟨r20, rfl, h⟩
      refine ⟨_, rfl, ?_⟩
      refine rv (Value.bool r20) w5 rfl rfl rfl (x_pickT (v := (Value.bool r20)) rfl rfl hc18 rfl) ?_
      refine wpR_nil ?_
      exact ⟨r20, ⟨rfl, e1, trivial⟩, h⟩
    · replace h := h.2 hc18
      refine wpR_pass (wantN rfl rfl rfl hc18) rfl rfl ?_
      refine wpR_pass (wantN rfl rfl rfl hc18) rfl rfl ?_
      refine wpR_pass (wantN rfl rfl rfl hc18) rfl rfl ?_
      refine rv (Value.bool false) w4 rfl rfl rfl (x_pickF (v := (Value.bool false)) rfl rfl hc18 rfl) ?_
      refine wpR_nil ?_
      exact ⟨false, ⟨rfl, e1, trivial⟩, h⟩
  clear h
  rintro c21 ρ w6 ⟨e15, e1, -⟩ h
  replace h := hk c21 w6 h
  clear hk
  refine rv (Value.bool c21) w6 rfl rfl rfl (x_move rfl e15) ?_
  obtain ⟨J22, h, hk⟩ := h
  refine wpR_joinJ 4 (fun x ρ => ρ 20 = Value.bool x ∧ True) (J22) ?_ ?_
  · clear hk
    rcases Bool.eq_false_or_eq_true (c21) with hc23 | hc23
    · replace h := h.1 hc23
      refine wpR_val (v := (Value.pointer (some ((Addr.mk b9 0 none).add 3)))) (w' := w6) (wantG rfl rfl rfl hc23) rfl rfl (x_fieldAddr rfl e1 FA_70_3) ?_
      obtain ⟨x24, q24, h⟩ := h
      refine wpR_val (v := (Value.int .i64 x24)) (w' := w6) (wantG rfl rfl rfl hc23) rfl rfl (x_load1 rfl rfl SH_3 q24) ?_
      refine wpR_enter (wantG rfl rfl rfl hc23) rfl rfl (x_call (vs := [(Value.int .i64 x24), (Value.int .i64 0), (Value.int .i64 1073741824)]) rfl rfl (mapl_cons rfl (mapl_cons rfl (mapl_cons rfl mapl_nil))) Tryz.func66 NN_66 NB_66) (Calls.mono h ?_)
      rintro _ w7 ⟨r25, rfl, h⟩
      refine ⟨_, rfl, ?_⟩
      refine rv (Value.bool r25) w7 rfl rfl rfl (x_pickT (v := (Value.bool r25)) rfl rfl hc23 rfl) ?_
      refine wpR_nil ?_
      exact ⟨r25, ⟨rfl, trivial⟩, h⟩
    · replace h := h.2 hc23
      refine wpR_pass (wantN rfl rfl rfl hc23) rfl rfl ?_
      refine wpR_pass (wantN rfl rfl rfl hc23) rfl rfl ?_
      refine wpR_pass (wantN rfl rfl rfl hc23) rfl rfl ?_
      refine rv (Value.bool false) w6 rfl rfl rfl (x_pickF (v := (Value.bool false)) rfl rfl hc23 rfl) ?_
      refine wpR_nil ?_
      exact ⟨false, ⟨rfl, trivial⟩, h⟩
  clear h
  rintro c26 ρ w8 ⟨e20, -⟩ h
  replace h := hk c26 w8 h
  clear hk
  refine rv (Value.bool c26) w8 rfl rfl rfl (x_assign rfl e20) ?_
  refine wpR_nil ?_
  refine wpC_ret ?_
  exact ⟨.inl rfl, fun a ha => ⟨_, results_rep1 rfl ha rfl, c26, rfl, h⟩⟩

/-- queue.has -/
def F45 (p0 : Sl) (p1 : Int) (p2 : Int) (w0 : World) (K : Bool → World → Prop) : Prop :=
  nw 3 #[(Value.int .i64 p1)] w0 fun b9 w1 =>
  nw 3 #[(Value.int .i64 p2)] w1 fun b10 w2 =>
  callC Tryz.prog 67 #[(Sl.v p0), (Value.func (.func 68) #[] (List.toArray [(Value.pointer (some (Addr.mk b9 0 none))), (Value.pointer (some (Addr.mk b10 0 none)))]))] (fun (r : Bool) => (Value.bool r)) w2 fun r11 w3 =>
  K r11 w3
set_option maxRecDepth 100000 in
theorem D45 (p0 : Sl) (p1 : Int) (p2 : Int) (w0 : World) (K : Bool → World → Prop) (h : F45 p0 p1 p2 w0 K) : callC Tryz.prog 45 #[(Sl.v p0), (Value.int .i64 p1), (Value.int .i64 p2)] (fun (r : Bool) => (Value.bool r)) w0 K := by
  unfold F45 at h
  refine calls_of_wpC Tryz.func45 rfl 10 rfl (by simp) ?_
  intro ρ hρ
  have e0 : ρ 0 = (Sl.v p0) := hρ 0
  have e1 : ρ 1 = (Value.int .i64 p1) := hρ 1
  have e2 : ρ 2 = (Value.int .i64 p2) := hρ 2
  clear hρ
  refine wpC_seq ?_
  refine wpC_region ?_
  obtain ⟨b9, hb9⟩ : ∃ u, u = w0.heap.size := ⟨_, rfl⟩
  obtain ⟨w1, hw9⟩ : ∃ u, u = w0.alloc (.cells #[(Value.int .i64 p1)] 3) := ⟨_, rfl⟩
  replace h := h b9 w1 hb9 hw9
  refine rv (Value.pointer (some (Addr.mk b9 0 none))) w1 rfl rfl rfl ((x_box (v := (Value.int .i64 p1)) rfl e1).trans (by rw [hb9, hw9]; rfl)) ?_
  obtain ⟨b10, hb10⟩ : ∃ u, u = w1.heap.size := ⟨_, rfl⟩
  obtain ⟨w2, hw10⟩ : ∃ u, u = w1.alloc (.cells #[(Value.int .i64 p2)] 3) := ⟨_, rfl⟩
  replace h := h b10 w2 hb10 hw10
  refine rv (Value.pointer (some (Addr.mk b10 0 none))) w2 rfl rfl rfl ((x_box (v := (Value.int .i64 p2)) rfl e2).trans (by rw [hb10, hw10]; rfl)) ?_
  refine rv (Value.bool false) w2 rfl rfl rfl (x_assign rfl rfl) ?_
  refine wpR_nil ?_
  refine wpC_seq ?_
  refine wpC_cut (fun ρ => ρ 0 = (Sl.v p0) ∧ ρ 4 = (Value.pointer (some (Addr.mk b9 0 none))) ∧ ρ 5 = (Value.pointer (some (Addr.mk b10 0 none))) ∧ True) ⟨e0, rfl, rfl, trivial⟩ ?_
  rintro ρ ⟨e0, e4, e5, -⟩
  refine wpC_region ?_
  refine rv (Sl.v p0) w2 rfl rfl rfl (x_move rfl e0) ?_
  refine rv (Value.func (.func 68) #[] (List.toArray [(Value.pointer (some (Addr.mk b9 0 none))), (Value.pointer (some (Addr.mk b10 0 none)))])) w2 rfl rfl rfl (x_makeFunc (vs := [(Value.pointer (some (Addr.mk b9 0 none))), (Value.pointer (some (Addr.mk b10 0 none)))]) rfl (mapl_cons e4 (mapl_cons e5 mapl_nil))) ?_
  refine wpR_enter rfl rfl rfl (x_call (vs := [(Sl.v p0), (Value.func (.func 68) #[] (List.toArray [(Value.pointer (some (Addr.mk b9 0 none))), (Value.pointer (some (Addr.mk b10 0 none)))]))]) rfl rfl (mapl_cons rfl (mapl_cons rfl mapl_nil)) Tryz.func67 NN_67 NB_67) (Calls.mono h ?_)
  rintro _ w3 ⟨r11, rfl, h⟩
  refine ⟨_, rfl, ?_⟩
  refine rv (Value.bool r11) w3 rfl rfl rfl (x_assign rfl rfl) ?_
  refine wpR_nil ?_
  refine wpC_ret ?_
  exact ⟨.inl rfl, fun a ha => ⟨_, results_rep1 rfl ha rfl, r11, rfl, h⟩⟩

/-- admit.Plan -/
def F46 (p0_0 : ByteArray) (p0_1 : Int) (p0_2 : Int) (p0_3 : Int) (p0_4 : Bool) (p0_5 : Int) (p0_6 : Bool) (p0_7 : Bool) (p0_8 : Int) (p0_9 : Int) (p0_10 : Int) (p0_11 : Int) (p0_12 : Sl) (p0_13 : Int) (p0_14 : Int) (p0_15 : Int) (p0_16 : Int) (p0_17 : Bool) (p0_18 : Int) (p0_19 : Int) (p0_20 : Int) (p0_21 : Int) (p1 : Sl) (p2 : Int) (w0 : World) (K : (Sl × Int × Int) → World → Prop) : Prop :=
  nw 65 (A64 p0_0 p0_1 p0_2 p0_3 p0_4 p0_5 p0_6 p0_7 p0_8 p0_9 p0_10 p0_11 p0_12 p0_13 p0_14 p0_15 p0_16 p0_17 p0_18 p0_19 p0_20 p0_21) w0 fun b9 w1 =>
  L64 (Addr.mk b9 0 none) w1 fun x10 x11 x12 x13 x14 x15 x16 x17 x18 x19 x20 x21 x22 x23 x24 x25 x26 x27 x28 x29 x30 x31 =>
  callC Tryz.prog 69 #[(V64 x10 x11 x12 x13 x14 x15 x16 x17 x18 x19 x20 x21 x22 x23 x24 x25 x26 x27 x28 x29 x30 x31), (Sl.v p1), (Value.int .i64 p2)] (fun (r : Sl × Bool) => (Value.tuple #[(Sl.v r.1), (Value.bool r.2)])) w1 fun r32 w2 =>
  cnd (!r32.2)
    (
    K (Sl.nil, (-1), 1) w2
    )
    (
    lp (fun (next34 : (Sl × Int) → World → Prop) l34 w3 =>
      cnd (decide (l34.2 < (r32.1.len : Int)))
        (
        ix r32.1 l34.2 5 fun p36 =>
        ld (Value.int .i64) (p36.add 0) w3 fun x37 =>
        ld (Value.int .i64) (p36.add 1) w3 fun x38 =>
        ld (Value.int .i64) (p36.add 2) w3 fun x39 =>
        ld (Value.int .i64) (p36.add 3) w3 fun x40 =>
        ld (Value.int .i64) (p36.add 4) w3 fun x41 =>
        nw 125 #[(Value.int .i64 0), (Value.int .i64 0), (Value.int .i64 0), (Value.int .i64 0), (Value.int .i64 0)] w3 fun b42 w4 =>
        st (Addr.mk b42 0 none) [(Value.int .i64 x37), (Value.int .i64 x38), (Value.int .i64 x39), (Value.int .i64 x40), (Value.int .i64 x41)] w4 fun w5 =>
        ld (Value.int .i64) ((Addr.mk b42 0 none).add 3) w5 fun x44 =>
        ld (Value.int .i64) ((Addr.mk b42 0 none).add 4) w5 fun x45 =>
        cnd (decide (x45 < x44))
          (
          jn (fun (J48 : (Sl × Int × Int) → World → Prop) => tk w5 fun w6 =>
            ld (Value.int .i64) (((Addr.mk b42 0 none).add 0).add 0) w6 fun x49 =>
            J48 (Sl.nil, x49, 16) w6
          )
          fun l50 w7 =>
          K (l50.1, l50.2.1, l50.2.2) w7
          )
          (
          ld (Value.int .i64) ((Addr.mk b42 0 none).add 4) w5 fun x51 =>
          ld (Value.int .i64) ((Addr.mk b42 0 none).add 3) w5 fun x52 =>
          nw 3 #[(Value.int .i64 (IntKind.i64.wrap (x51 - x52)))] w5 fun b53 w8 =>
          rn Tryz.prog (Builtin.append_ #[39, 39] 39 #[Sl.v l34.1, Sl.v (⟨some ⟨b53, 0, none⟩, 1, 1⟩ : Sl)]) Sl.v w8 fun r54 w9 =>
          next34 (r54, IntKind.i64.wrap (l34.2 + 1)) w9
          )
        )
        (
        K (l34.1, (-1), 0) w3
        )
    ) (Sl.nil, 0) w2
    )
set_option maxRecDepth 100000 in
theorem D46 (p0_0 : ByteArray) (p0_1 : Int) (p0_2 : Int) (p0_3 : Int) (p0_4 : Bool) (p0_5 : Int) (p0_6 : Bool) (p0_7 : Bool) (p0_8 : Int) (p0_9 : Int) (p0_10 : Int) (p0_11 : Int) (p0_12 : Sl) (p0_13 : Int) (p0_14 : Int) (p0_15 : Int) (p0_16 : Int) (p0_17 : Bool) (p0_18 : Int) (p0_19 : Int) (p0_20 : Int) (p0_21 : Int) (p1 : Sl) (p2 : Int) (w0 : World) (K : (Sl × Int × Int) → World → Prop) (h : F46 p0_0 p0_1 p0_2 p0_3 p0_4 p0_5 p0_6 p0_7 p0_8 p0_9 p0_10 p0_11 p0_12 p0_13 p0_14 p0_15 p0_16 p0_17 p0_18 p0_19 p0_20 p0_21 p1 p2 w0 K) : callC Tryz.prog 46 #[(V64 p0_0 p0_1 p0_2 p0_3 p0_4 p0_5 p0_6 p0_7 p0_8 p0_9 p0_10 p0_11 p0_12 p0_13 p0_14 p0_15 p0_16 p0_17 p0_18 p0_19 p0_20 p0_21), (Sl.v p1), (Value.int .i64 p2)] (fun (r : Sl × Int × Int) => (Value.tuple #[(Sl.v r.1), (Value.int .i64 r.2.1), (Value.int .i64 r.2.2)])) w0 K := by
  unfold F46 at h
  refine calls_of_wpC Tryz.func46 rfl 47 rfl (by simp) ?_
  intro ρ hρ
  have e0 : ρ 0 = (V64 p0_0 p0_1 p0_2 p0_3 p0_4 p0_5 p0_6 p0_7 p0_8 p0_9 p0_10 p0_11 p0_12 p0_13 p0_14 p0_15 p0_16 p0_17 p0_18 p0_19 p0_20 p0_21) := hρ 0
  have e1 : ρ 1 = (Sl.v p1) := hρ 1
  have e2 : ρ 2 = (Value.int .i64 p2) := hρ 2
  clear hρ
  refine wpC_seq ?_
  refine wpC_region ?_
  obtain ⟨b9, hb9⟩ : ∃ u, u = w0.heap.size := ⟨_, rfl⟩
  obtain ⟨w1, hw9⟩ : ∃ u, u = w0.alloc (.cells (A64 p0_0 p0_1 p0_2 p0_3 p0_4 p0_5 p0_6 p0_7 p0_8 p0_9 p0_10 p0_11 p0_12 p0_13 p0_14 p0_15 p0_16 p0_17 p0_18 p0_19 p0_20 p0_21) 65) := ⟨_, rfl⟩
  replace h := h b9 w1 hb9 hw9
  refine rv (Value.pointer (some (Addr.mk b9 0 none))) w1 rfl rfl rfl ((x_box (v := (V64 p0_0 p0_1 p0_2 p0_3 p0_4 p0_5 p0_6 p0_7 p0_8 p0_9 p0_10 p0_11 p0_12 p0_13 p0_14 p0_15 p0_16 p0_17 p0_18 p0_19 p0_20 p0_21)) rfl e0).trans (by rw [hb9, hw9]; rfl)) ?_
  refine rv (Sl.v Sl.nil) w1 rfl rfl rfl (x_assign rfl rfl) ?_
  refine rv (Value.int .i64 0) w1 rfl rfl rfl (x_assign rfl rfl) ?_
  refine rv (Value.int .i64 0) w1 rfl rfl rfl (x_assign rfl rfl) ?_
  refine wpR_nil ?_
  refine wpC_seq ?_
  refine wpC_cut (fun ρ => ρ 1 = (Sl.v p1) ∧ ρ 2 = (Value.int .i64 p2) ∧ ρ 3 = (Value.pointer (some (Addr.mk b9 0 none))) ∧ True) ⟨e1, e2, rfl, trivial⟩ ?_
  rintro ρ ⟨e1, e2, e3, -⟩
  refine wpC_region ?_
  obtain ⟨x10, q10, x11, q11, x12, q12, x13, q13, x14, q14, x15, q15, x16, q16, x17, q17, x18, q18, x19, q19, x20, q20, x21, q21, x22, q22, x23, q23, x24, q24, x25, q25, x26, q26, x27, q27, x28, q28, x29, q29, x30, q30, x31, q31, h⟩ := h
  refine rv (V64 x10 x11 x12 x13 x14 x15 x16 x17 x18 x19 x20 x21 x22 x23 x24 x25 x26 x27 x28 x29 x30 x31) w1 rfl rfl rfl (x_loadN (S64 x10 x11 x12 x13 x14 x15 x16 x17 x18 x19 x20 x21 x22 x23 x24 x25 x26 x27 x28 x29 x30 x31) rfl e3 SH_65 (K64 ⟨q10, q11, q12, q13, q14, q15, q16, q17, q18, q19, q20, q21, q22, q23, q24, q25, q26, q27, q28, q29, q30, q31⟩)) ?_
  refine rv (Sl.v p1) w1 rfl rfl rfl (x_move rfl e1) ?_
  refine rv (Value.int .i64 p2) w1 rfl rfl rfl (x_move rfl e2) ?_
  refine wpR_enter rfl rfl rfl (x_call (vs := [(V64 x10 x11 x12 x13 x14 x15 x16 x17 x18 x19 x20 x21 x22 x23 x24 x25 x26 x27 x28 x29 x30 x31), (Sl.v p1), (Value.int .i64 p2)]) rfl rfl (mapl_cons rfl (mapl_cons rfl (mapl_cons rfl mapl_nil))) Tryz.func69 NN_69 NB_69) (Calls.mono h ?_)
  rintro _ w2 ⟨r32, rfl, h⟩
  refine ⟨_, rfl, ?_⟩
  refine rv (Value.tuple #[(Sl.v r32.1), (Value.bool r32.2)]) w2 rfl rfl rfl (x_move rfl rfl) ?_
  refine rv (Sl.v r32.1) w2 rfl rfl rfl (x_extract rfl rfl rfl) ?_
  refine rv (Value.bool r32.2) w2 rfl rfl rfl (x_extract rfl rfl rfl) ?_
  refine rv (Sl.v r32.1) w2 rfl rfl rfl (x_assign rfl rfl) ?_
  refine rv (Value.bool r32.2) w2 rfl rfl rfl (x_assign rfl rfl) ?_
  refine wpR_nil ?_
  refine wpC_seq ?_
  refine wpC_seq ?_
  refine wpC_cut (fun ρ => ρ 9 = (Sl.v r32.1) ∧ ρ 10 = (Value.bool r32.2) ∧ True) ⟨rfl, rfl, trivial⟩ ?_
  rintro ρ ⟨e9, e10, -⟩
  refine wpC_region ?_
  refine rv (Value.bool r32.2) w2 rfl rfl rfl (x_move rfl e10) ?_
  refine rv (Value.bool (!r32.2)) w2 rfl rfl rfl (x_not rfl rfl) ?_
  refine wpR_nil ?_
  refine wpC_cond (b := !r32.2) rfl (fun hc33 => ?_) (fun hc33 => ?_)
  · replace h := h.1 hc33
    refine wpC_seq ?_
    refine wpC_cut (fun ρ => True) trivial ?_
    rintro ρ -
    refine wpC_region ?_
    refine rv (Sl.v Sl.nil) w2 rfl rfl rfl (x_assign rfl rfl) ?_
    refine rv (Value.int .i64 (-1)) w2 rfl rfl rfl (x_assign rfl rfl) ?_
    refine rv (Value.int .i64 1) w2 rfl rfl rfl (x_assign rfl rfl) ?_
    refine wpR_nil ?_
    refine wpC_ret ?_
    exact ⟨.inl rfl, fun a ha => ⟨_, results_rep3 rfl ha rfl rfl rfl, (Sl.nil, (-1), 1), rfl, h⟩⟩
  · replace h := h.2 hc33
    refine wpC_skip ?_
    refine wpC_seq ?_
    refine wpC_cut (fun ρ => ρ 9 = (Sl.v r32.1) ∧ True) ⟨e9, trivial⟩ ?_
    rintro ρ ⟨e9, -⟩
    refine wpC_region ?_
    refine rv (Sl.v Sl.nil) w2 rfl rfl rfl (x_assign rfl rfl) ?_
    refine wpR_nil ?_
    refine wpC_seq ?_
    refine wpC_seq ?_
    refine wpC_cut (fun ρ => ρ 9 = (Sl.v r32.1) ∧ ρ 11 = (Sl.v Sl.nil) ∧ True) ⟨e9, rfl, trivial⟩ ?_
    rintro ρ ⟨e9, e11, -⟩
    refine wpC_region ?_
    refine rv (Sl.v r32.1) w2 rfl rfl rfl (x_move rfl e9) ?_
    refine rv (Value.int .i64 (r32.1.len : Int)) w2 rfl rfl rfl (x_lenS (s := r32.1) rfl rfl isSliceT_121) ?_
    refine rv (Value.int .i64 0) w2 rfl rfl rfl (x_move rfl rfl) ?_
    refine wpR_nil ?_
    refine wpC_block ?_
    obtain ⟨I34, μ34, hI34, hr34⟩ := h
    refine wpC_loop (fun (x : Sl × Int) ρ => ρ 11 = (Sl.v x.1) ∧ ρ 25 = (Value.int .i64 x.2) ∧ ρ 23 = (Sl.v r32.1) ∧ ρ 24 = (Value.int .i64 (r32.1.len : Int)) ∧ True) I34 μ34 (Sl.nil, 0) ⟨e11, rfl, rfl, rfl, trivial⟩ hI34 ?_
    rintro l34 ρ w3 ⟨e11, e25, e23, e24, -⟩ h
    replace h := hr34 l34 w3 h
    clear hr34 hI34
    refine wpC_seq ?_
    refine wpC_region ?_
    refine rv (Value.bool (decide (l34.2 < (r32.1.len : Int)))) w3 rfl rfl rfl (x_lss rfl e25 e24) ?_
    refine wpR_nil ?_
    refine wpC_seq ?_
    refine wpC_cond (b := decide (l34.2 < (r32.1.len : Int))) rfl (fun hc35 => ?_) (fun hc35 => ?_)
    · replace h := h.1 hc35
      refine wpC_skip ?_
      refine wpC_seq ?_
      refine wpC_block ?_
      refine wpC_seq ?_
      refine wpC_cut (fun ρ => ρ 11 = (Sl.v l34.1) ∧ ρ 23 = (Sl.v r32.1) ∧ ρ 24 = (Value.int .i64 (r32.1.len : Int)) ∧ ρ 25 = (Value.int .i64 l34.2) ∧ True) ⟨e11, e23, e24, e25, trivial⟩ ?_
      rintro ρ ⟨e11, e23, e24, e25, -⟩
      refine wpC_region ?_
      obtain ⟨q36, z36, r36, h⟩ := h
      generalize hp36 : z36.add ((l34.2 : Int).toNat * 5) = p36 at h
      refine rv (Value.pointer (some p36)) w3 rfl rfl rfl ((x_indexAddr (s := r32.1) rfl e23 e25 ES_121 q36 r36).trans (by rw [hp36])) ?_
      obtain ⟨x37, q37, x38, q38, x39, q39, x40, q40, x41, q41, h⟩ := h
      refine rv (Value.agg #[(Value.int .i64 x37), (Value.int .i64 x38), (Value.int .i64 x39), (Value.int .i64 x40), (Value.int .i64 x41)]) w3 rfl rfl rfl (x_loadN [(Value.int .i64 x37), (Value.int .i64 x38), (Value.int .i64 x39), (Value.int .i64 x40), (Value.int .i64 x41)] rfl rfl SH_125 (CellsAt.out (CellsAt.cons q37 (CellsAt.cons q38 (CellsAt.cons q39 (CellsAt.cons q40 (CellsAt.cons q41 CellsAt.nil))))))) ?_
      obtain ⟨b42, hb42⟩ : ∃ u, u = w3.heap.size := ⟨_, rfl⟩
      obtain ⟨w4, hw42⟩ : ∃ u, u = w3.alloc (.cells #[(Value.int .i64 0), (Value.int .i64 0), (Value.int .i64 0), (Value.int .i64 0), (Value.int .i64 0)] 125) := ⟨_, rfl⟩
      replace h := h b42 w4 hb42 hw42
      refine rv (Value.pointer (some (Addr.mk b42 0 none))) w4 rfl rfl rfl ((x_alloc rfl ZV_125).trans (by rw [hb42, hw42]; rfl)) ?_
      obtain ⟨q43, h⟩ := h
      obtain ⟨w5, hw43⟩ : ∃ u, u = setAll w4 (Addr.mk b42 0 none) [(Value.int .i64 x37), (Value.int .i64 x38), (Value.int .i64 x39), (Value.int .i64 x40), (Value.int .i64 x41)] 0 := ⟨_, rfl⟩
      replace h := h w5 hw43
      refine wpR_skp (w' := w5) rfl rfl ((x_store (v := (Value.agg #[(Value.int .i64 x37), (Value.int .i64 x38), (Value.int .i64 x39), (Value.int .i64 x40), (Value.int .i64 x41)])) rfl rfl rfl SZ_125 (ones (by rfl)) q43).trans (by rw [hw43]; rfl)) ?_
      refine wpR_nil ?_
      refine wpC_seq ?_
      refine wpC_seq ?_
      refine wpC_cut (fun ρ => ρ 11 = (Sl.v l34.1) ∧ ρ 13 = (Value.pointer (some (Addr.mk b42 0 none))) ∧ ρ 23 = (Sl.v r32.1) ∧ ρ 24 = (Value.int .i64 (r32.1.len : Int)) ∧ ρ 25 = (Value.int .i64 l34.2) ∧ True) ⟨e11, rfl, e23, e24, e25, trivial⟩ ?_
      rintro ρ ⟨e11, e13, e23, e24, e25, -⟩
      refine wpC_region ?_
      refine rv (Value.pointer (some ((Addr.mk b42 0 none).add 3))) w5 rfl rfl rfl (x_fieldAddr rfl e13 FA_125_1) ?_
      obtain ⟨x44, q44, h⟩ := h
      refine rv (Value.int .i64 x44) w5 rfl rfl rfl (x_load1 rfl rfl SH_3 q44) ?_
      refine rv (Value.pointer (some ((Addr.mk b42 0 none).add 4))) w5 rfl rfl rfl (x_fieldAddr rfl e13 FA_125_2) ?_
      obtain ⟨x45, q45, h⟩ := h
      refine rv (Value.int .i64 x45) w5 rfl rfl rfl (x_load1 rfl rfl SH_3 q45) ?_
      refine rv (Value.bool (decide (x45 < x44))) w5 rfl rfl rfl (x_gtr rfl rfl rfl) ?_
      refine wpR_nil ?_
      refine wpC_cond (b := decide (x45 < x44)) rfl (fun hc46 => ?_) (fun hc46 => ?_)
      · replace h := h.1 hc46
        refine wpC_seq ?_
        refine wpC_cut (fun ρ => ρ 13 = (Value.pointer (some (Addr.mk b42 0 none))) ∧ True) ⟨e13, trivial⟩ ?_
        rintro ρ ⟨e13, -⟩
        obtain ⟨J48, h, hk⟩ := h
        refine wpC_drawJ (by kernel_rfl) (fun (x : Sl × Int × Int) ρ => ρ 6 = (Sl.v x.1) ∧ ρ 7 = (Value.int .i64 x.2.1) ∧ ρ 8 = (Value.int .i64 x.2.2) ∧ True) J48 ?_ ?_
        · clear hk
          unfold tk at h
          generalize w5.drew = w6 at h ⊢
          refine wpD_take (v := (Value.pointer (some ((Addr.mk b42 0 none).add 0)))) 0 (fun _ => True) rfl (by kernel_rfl) (by kernel_rfl) (by kernel_rfl) rfl rfl rfl trivial (fun w _ => (x_fieldAddr rfl e13 FA_125_0)) ?_
          refine wpD_take (v := (Value.pointer (some (((Addr.mk b42 0 none).add 0).add 0)))) 1 (fun _ => True) rfl (by kernel_rfl) (by kernel_rfl) (by kernel_rfl) rfl rfl rfl trivial (fun w _ => (x_fieldAddr rfl rfl FA_103_0)) ?_
          obtain ⟨x49, q49, h⟩ := h
          refine wpD_take (v := (Value.int .i64 x49)) 2 (fun w => w.cell? (((Addr.mk b42 0 none).add 0).add 0) = some (Value.int .i64 x49)) rfl (by kernel_rfl) (by kernel_rfl) (by kernel_rfl) rfl rfl rfl q49 (fun w q49 => (x_load1 rfl rfl SH_3 q49)) ?_
          refine wpD_take (v := (Sl.v Sl.nil)) 3 (fun _ => True) rfl (by kernel_rfl) (by kernel_rfl) (by kernel_rfl) rfl rfl rfl trivial (fun w _ => (x_assign (v := (Sl.v Sl.nil)) rfl rfl)) ?_
          refine wpD_take (v := (Value.int .i64 x49)) 4 (fun _ => True) rfl (by kernel_rfl) (by kernel_rfl) (by kernel_rfl) rfl rfl rfl trivial (fun w _ => (x_assign (v := (Value.int .i64 x49)) rfl rfl)) ?_
          refine wpD_take (v := (Value.int .i64 16)) 5 (fun _ => True) rfl (by kernel_rfl) (by kernel_rfl) (by kernel_rfl) rfl rfl rfl trivial (fun w _ => (x_assign (v := (Value.int .i64 16)) rfl rfl)) ?_
          exact wpD_done (by kernel_rfl) ⟨(Sl.nil, x49, 16), ⟨rfl, rfl, rfl, trivial⟩, h⟩
        clear h
        rintro l50 ρ w7 ⟨e6, e7, e8, -⟩ h
        replace h := hk l50 w7 h
        clear hk
        refine wpC_ret ?_
        exact ⟨.inl rfl, fun a ha => ⟨_, results_rep3 rfl ha e6 e7 e8, (l50.1, l50.2.1, l50.2.2), rfl, h⟩⟩
      · replace h := h.2 hc46
        refine wpC_skip ?_
        refine wpC_cut (fun ρ => ρ 11 = (Sl.v l34.1) ∧ ρ 13 = (Value.pointer (some (Addr.mk b42 0 none))) ∧ ρ 23 = (Sl.v r32.1) ∧ ρ 24 = (Value.int .i64 (r32.1.len : Int)) ∧ ρ 25 = (Value.int .i64 l34.2) ∧ True) ⟨e11, e13, e23, e24, e25, trivial⟩ ?_
        rintro ρ ⟨e11, e13, e23, e24, e25, -⟩
        refine wpC_region ?_
        refine rv (Sl.v l34.1) w5 rfl rfl rfl (x_move rfl e11) ?_
        refine rv (Value.pointer (some ((Addr.mk b42 0 none).add 4))) w5 rfl rfl rfl (x_fieldAddr rfl e13 FA_125_2) ?_
        obtain ⟨x51, q51, h⟩ := h
        refine rv (Value.int .i64 x51) w5 rfl rfl rfl (x_load1 rfl rfl SH_3 q51) ?_
        refine rv (Value.pointer (some ((Addr.mk b42 0 none).add 3))) w5 rfl rfl rfl (x_fieldAddr rfl e13 FA_125_1) ?_
        obtain ⟨x52, q52, h⟩ := h
        refine rv (Value.int .i64 x52) w5 rfl rfl rfl (x_load1 rfl rfl SH_3 q52) ?_
        refine rv (Value.int .i64 (IntKind.i64.wrap (x51 - x52))) w5 rfl rfl rfl (x_sub rfl rfl rfl) ?_
        obtain ⟨b53, hb53⟩ : ∃ u, u = w5.heap.size := ⟨_, rfl⟩
        obtain ⟨w8, hw53⟩ : ∃ u, u = w5.alloc (.cells #[(Value.int .i64 (IntKind.i64.wrap (x51 - x52)))] 3) := ⟨_, rfl⟩
        replace h := h b53 w8 hb53 hw53
        refine rv (Sl.v (⟨some ⟨b53, 0, none⟩, 1, 1⟩ : Sl)) w8 rfl rfl rfl ((x_buildSlice (qs := [(0, (Value.int .i64 (IntKind.i64.wrap (x51 - x52))))]) rfl (by rfl) (BS_39_1_0 (IntKind.i64.wrap (x51 - x52)))).trans (by rw [← hb53, ← hw53])) ?_
        obtain ⟨r54, w9, q54, h⟩ := h
        refine rv (Sl.v r54) w9 rfl rfl rfl (x_append (s := l34.1) (u := (⟨some ⟨b53, 0, none⟩, 1, 1⟩ : Sl)) rfl rfl rfl rfl q54) ?_
        refine rv (Sl.v r54) w9 rfl rfl rfl (x_assign rfl rfl) ?_
        refine wpR_nil ?_
        refine wpC_cut (fun ρ => ρ 11 = (Sl.v r54) ∧ ρ 23 = (Sl.v r32.1) ∧ ρ 24 = (Value.int .i64 (r32.1.len : Int)) ∧ ρ 25 = (Value.int .i64 l34.2) ∧ True) ⟨rfl, e23, e24, e25, trivial⟩ ?_
        rintro ρ ⟨e11, e23, e24, e25, -⟩
        refine wpC_region ?_
        refine rv (Value.int .i64 (IntKind.i64.wrap (l34.2 + 1))) w9 rfl rfl rfl (x_add rfl e25 rfl) ?_
        refine rv (Value.int .i64 (IntKind.i64.wrap (l34.2 + 1))) w9 rfl rfl rfl (x_move rfl rfl) ?_
        refine wpR_nil ?_
        exact ⟨(r54, IntKind.i64.wrap (l34.2 + 1)), ⟨e11, rfl, e23, e24, trivial⟩, h⟩
    · replace h := h.2 hc35
      refine wpC_exit ?_
      refine wpC_seq ?_
      refine wpC_cut (fun ρ => ρ 11 = (Sl.v l34.1) ∧ True) ⟨e11, trivial⟩ ?_
      rintro ρ ⟨e11, -⟩
      refine wpC_region ?_
      refine rv (Sl.v l34.1) w3 rfl rfl rfl (x_move rfl e11) ?_
      refine rv (Sl.v l34.1) w3 rfl rfl rfl (x_assign rfl rfl) ?_
      refine rv (Value.int .i64 (-1)) w3 rfl rfl rfl (x_assign rfl rfl) ?_
      refine rv (Value.int .i64 0) w3 rfl rfl rfl (x_assign rfl rfl) ?_
      refine wpR_nil ?_
      refine wpC_ret ?_
      exact ⟨.inl rfl, fun a ha => ⟨_, results_rep3 rfl ha rfl rfl rfl, (l34.1, (-1), 0), rfl, h⟩⟩

/-- profile.Check -/
def F47 (p0_0 : ByteArray) (p0_1 : Int) (p0_2 : Int) (p0_3 : Int) (p0_4 : Bool) (p0_5 : Int) (p0_6 : Bool) (p0_7 : Bool) (p0_8 : Int) (p0_9 : Int) (p0_10 : Int) (p0_11 : Int) (p0_12 : Sl) (p0_13 : Int) (p0_14 : Int) (p0_15 : Int) (p0_16 : Int) (p0_17 : Bool) (p0_18 : Int) (p0_19 : Int) (p0_20 : Int) (p0_21 : Int) (w0 : World) (K : Int → World → Prop) : Prop :=
  nw 65 (A64 p0_0 p0_1 p0_2 p0_3 p0_4 p0_5 p0_6 p0_7 p0_8 p0_9 p0_10 p0_11 p0_12 p0_13 p0_14 p0_15 p0_16 p0_17 p0_18 p0_19 p0_20 p0_21) w0 fun b9 w1 =>
  L64 (Addr.mk b9 0 none) w1 fun x10 x11 x12 x13 x14 x15 x16 x17 x18 x19 x20 x21 x22 x23 x24 x25 x26 x27 x28 x29 x30 x31 =>
  callC Tryz.prog 70 #[(V64 x10 x11 x12 x13 x14 x15 x16 x17 x18 x19 x20 x21 x22 x23 x24 x25 x26 x27 x28 x29 x30 x31)] (fun (r : Bool) => (Value.bool r)) w1 fun r32 w2 =>
  cnd (!r32)
    (
    K 1 w2
    )
    (
    ld (Value.int .i64) ((Addr.mk b9 0 none).add 8) w2 fun x34 =>
    callC Tryz.prog 71 #[(Value.int .i64 x34), (Value.int .i64 40), (Value.int .i64 4000)] (fun (r : Bool) => (Value.bool r)) w2 fun r35 w3 =>
    jn (fun J36 => cnd (!r35)
      (
      J36 true w3
      )
      (
      ld (Value.int .i64) ((Addr.mk b9 0 none).add 9) w3 fun x38 =>
      callC Tryz.prog 71 #[(Value.int .i64 x38), (Value.int .i64 1), (Value.int .i64 20)] (fun (r : Bool) => (Value.bool r)) w3 fun r39 w4 =>
      J36 (!r39) w4
      ))
    fun c40 w5 =>
    jp (fun J41 => cnd (c40)
      (
      J41 true
      )
      (
      ld (Value.int .i64) ((Addr.mk b9 0 none).add 10) w5 fun x43 =>
      J41 (decide (4 < x43))
      ))
    fun c44 =>
    jp (fun J45 => cnd (c44)
      (
      J45 true
      )
      (
      ld (Value.int .i64) ((Addr.mk b9 0 none).add 11) w5 fun x47 =>
      J45 (decide (65536 < x47))
      ))
    fun c48 =>
    jp (fun J49 => cnd (c48)
      (
      J49 true
      )
      (
      ld (Value.int .i64) ((Addr.mk b9 0 none).add 18) w5 fun x51 =>
      J49 (decide (x51 < 1))
      ))
    fun c52 =>
    jp (fun J53 => cnd (c52)
      (
      J53 true
      )
      (
      ld (Value.int .i64) ((Addr.mk b9 0 none).add 19) w5 fun x55 =>
      jp (fun J56 => cnd (!decide (x55 = 0))
        (
        ld (Value.int .i64) ((Addr.mk b9 0 none).add 19) w5 fun x58 =>
        ld (Value.int .i64) ((Addr.mk b9 0 none).add 20) w5 fun x59 =>
        J56 (decide (x59 ≤ x58))
        )
        (
        J56 false
        ))
      fun c60 =>
      J53 c60
      ))
    fun c61 =>
    jn (fun J62 => cnd (c61)
      (
      J62 true w5
      )
      (
      L64 (Addr.mk b9 0 none) w5 fun x64 x65 x66 x67 x68 x69 x70 x71 x72 x73 x74 x75 x76 x77 x78 x79 x80 x81 x82 x83 x84 x85 =>
      callC Tryz.prog 72 #[(V64 x64 x65 x66 x67 x68 x69 x70 x71 x72 x73 x74 x75 x76 x77 x78 x79 x80 x81 x82 x83 x84 x85)] (fun (r : Bool) => (Value.bool r)) w5 fun r86 w6 =>
      J62 (!r86) w6
      ))
    fun c87 w7 =>
    cnd (c87)
      (
      K 3 w7
      )
      (
      ld Sl.v ((Addr.mk b9 0 none).add 12) w7 fun x89 =>
      lp (fun (next90 : Int → World → Prop) l90 w8 =>
        cnd (decide (l90 < (x89.len : Int)))
          (
          ix x89 l90 1 fun p92 =>
          ld Value.string p92 w8 fun x93 =>
          ld Sl.v ((Addr.mk b9 0 none).add 12) w8 fun x94 =>
          rn Tryz.prog (Instr.sliceAt 63 (Sl.v x94) none (some (Value.int .i64 l90)) none) (fun (r : Sl) => (Sl.v r)) w8 fun r95 w9 =>
          callC Tryz.prog 73 #[(Sl.v r95), (Value.string x93)] (fun (r : Bool) => (Value.bool r)) w9 fun r96 w10 =>
          cnd (r96)
            (
            K 5 w10
            )
            (
            next90 (IntKind.i64.wrap (l90 + 1)) w10
            )
          )
          (
          K 0 w8
          )
      ) 0 w7
      )
    )
set_option maxRecDepth 100000 in
theorem D47 (p0_0 : ByteArray) (p0_1 : Int) (p0_2 : Int) (p0_3 : Int) (p0_4 : Bool) (p0_5 : Int) (p0_6 : Bool) (p0_7 : Bool) (p0_8 : Int) (p0_9 : Int) (p0_10 : Int) (p0_11 : Int) (p0_12 : Sl) (p0_13 : Int) (p0_14 : Int) (p0_15 : Int) (p0_16 : Int) (p0_17 : Bool) (p0_18 : Int) (p0_19 : Int) (p0_20 : Int) (p0_21 : Int) (w0 : World) (K : Int → World → Prop) (h : F47 p0_0 p0_1 p0_2 p0_3 p0_4 p0_5 p0_6 p0_7 p0_8 p0_9 p0_10 p0_11 p0_12 p0_13 p0_14 p0_15 p0_16 p0_17 p0_18 p0_19 p0_20 p0_21 w0 K) : callC Tryz.prog 47 #[(V64 p0_0 p0_1 p0_2 p0_3 p0_4 p0_5 p0_6 p0_7 p0_8 p0_9 p0_10 p0_11 p0_12 p0_13 p0_14 p0_15 p0_16 p0_17 p0_18 p0_19 p0_20 p0_21)] (fun (r : Int) => (Value.int .i64 r)) w0 K := by
  unfold F47 at h
  refine calls_of_wpC Tryz.func47 rfl 65 rfl (by simp) ?_
  intro ρ hρ
  have e0 : ρ 0 = (V64 p0_0 p0_1 p0_2 p0_3 p0_4 p0_5 p0_6 p0_7 p0_8 p0_9 p0_10 p0_11 p0_12 p0_13 p0_14 p0_15 p0_16 p0_17 p0_18 p0_19 p0_20 p0_21) := hρ 0
  clear hρ
  refine wpC_seq ?_
  refine wpC_region ?_
  obtain ⟨b9, hb9⟩ : ∃ u, u = w0.heap.size := ⟨_, rfl⟩
  obtain ⟨w1, hw9⟩ : ∃ u, u = w0.alloc (.cells (A64 p0_0 p0_1 p0_2 p0_3 p0_4 p0_5 p0_6 p0_7 p0_8 p0_9 p0_10 p0_11 p0_12 p0_13 p0_14 p0_15 p0_16 p0_17 p0_18 p0_19 p0_20 p0_21) 65) := ⟨_, rfl⟩
  replace h := h b9 w1 hb9 hw9
  refine rv (Value.pointer (some (Addr.mk b9 0 none))) w1 rfl rfl rfl ((x_box (v := (V64 p0_0 p0_1 p0_2 p0_3 p0_4 p0_5 p0_6 p0_7 p0_8 p0_9 p0_10 p0_11 p0_12 p0_13 p0_14 p0_15 p0_16 p0_17 p0_18 p0_19 p0_20 p0_21)) rfl e0).trans (by rw [hb9, hw9]; rfl)) ?_
  refine rv (Value.int .i64 0) w1 rfl rfl rfl (x_assign rfl rfl) ?_
  refine wpR_nil ?_
  refine wpC_seq ?_
  refine wpC_seq ?_
  refine wpC_cut (fun ρ => ρ 1 = (Value.pointer (some (Addr.mk b9 0 none))) ∧ True) ⟨rfl, trivial⟩ ?_
  rintro ρ ⟨e1, -⟩
  refine wpC_region ?_
  obtain ⟨x10, q10, x11, q11, x12, q12, x13, q13, x14, q14, x15, q15, x16, q16, x17, q17, x18, q18, x19, q19, x20, q20, x21, q21, x22, q22, x23, q23, x24, q24, x25, q25, x26, q26, x27, q27, x28, q28, x29, q29, x30, q30, x31, q31, h⟩ := h
  refine rv (V64 x10 x11 x12 x13 x14 x15 x16 x17 x18 x19 x20 x21 x22 x23 x24 x25 x26 x27 x28 x29 x30 x31) w1 rfl rfl rfl (x_loadN (S64 x10 x11 x12 x13 x14 x15 x16 x17 x18 x19 x20 x21 x22 x23 x24 x25 x26 x27 x28 x29 x30 x31) rfl e1 SH_65 (K64 ⟨q10, q11, q12, q13, q14, q15, q16, q17, q18, q19, q20, q21, q22, q23, q24, q25, q26, q27, q28, q29, q30, q31⟩)) ?_
  refine wpR_enter rfl rfl rfl (x_call (vs := [(V64 x10 x11 x12 x13 x14 x15 x16 x17 x18 x19 x20 x21 x22 x23 x24 x25 x26 x27 x28 x29 x30 x31)]) rfl rfl (mapl_cons rfl mapl_nil) Tryz.func70 NN_70 NB_70) (Calls.mono h ?_)
  rintro _ w2 ⟨r32, rfl, h⟩
  refine ⟨_, rfl, ?_⟩
  refine rv (Value.bool (!r32)) w2 rfl rfl rfl (x_not rfl rfl) ?_
  refine wpR_nil ?_
  refine wpC_cond (b := !r32) rfl (fun hc33 => ?_) (fun hc33 => ?_)
  · replace h := h.1 hc33
    refine wpC_seq ?_
    refine wpC_cut (fun ρ => True) trivial ?_
    rintro ρ -
    refine wpC_region ?_
    refine rv (Value.int .i64 1) w2 rfl rfl rfl (x_assign rfl rfl) ?_
    refine wpR_nil ?_
    refine wpC_ret ?_
    exact ⟨.inl rfl, fun a ha => ⟨_, results_rep1 rfl ha rfl, 1, rfl, h⟩⟩
  · replace h := h.2 hc33
    refine wpC_skip ?_
    refine wpC_seq ?_
    refine wpC_seq ?_
    refine wpC_cut (fun ρ => ρ 1 = (Value.pointer (some (Addr.mk b9 0 none))) ∧ True) ⟨e1, trivial⟩ ?_
    rintro ρ ⟨e1, -⟩
    refine wpC_region ?_
    refine rv (Value.pointer (some ((Addr.mk b9 0 none).add 8))) w2 rfl rfl rfl (x_fieldAddr rfl e1 FA_65_8) ?_
    obtain ⟨x34, q34, h⟩ := h
    refine rv (Value.int .i64 x34) w2 rfl rfl rfl (x_load1 rfl rfl SH_3 q34) ?_
    refine wpR_enter rfl rfl rfl (x_call (vs := [(Value.int .i64 x34), (Value.int .i64 40), (Value.int .i64 4000)]) rfl rfl (mapl_cons rfl (mapl_cons rfl (mapl_cons rfl mapl_nil))) Tryz.func71 NN_71 NB_71) (Calls.mono h ?_)
    rintro _ w3 ⟨r35, rfl, h⟩
    refine ⟨_, rfl, ?_⟩
    refine rv (Value.bool (!r35)) w3 rfl rfl rfl (x_not rfl rfl) ?_
    refine rv (Value.bool (!r35)) w3 rfl rfl rfl (x_move rfl rfl) ?_
    obtain ⟨J36, h, hk⟩ := h
    refine wpR_joinJ 5 (fun x ρ => ρ 17 = Value.bool x ∧ ρ 1 = (Value.pointer (some (Addr.mk b9 0 none))) ∧ True) (J36) ?_ ?_
    · clear hk
      rcases Bool.eq_false_or_eq_true (!r35) with hc37 | hc37
      · replace h := h.1 hc37
        refine wpR_pass (wantN rfl rfl rfl hc37) rfl rfl ?_
        refine wpR_pass (wantN rfl rfl rfl hc37) rfl rfl ?_
        refine wpR_pass (wantN rfl rfl rfl hc37) rfl rfl ?_
        refine wpR_pass (wantN rfl rfl rfl hc37) rfl rfl ?_
        refine rv (Value.bool true) w3 rfl rfl rfl (x_pickT (v := (Value.bool true)) rfl rfl hc37 rfl) ?_
        refine wpR_nil ?_
        exact ⟨true, ⟨rfl, e1, trivial⟩, h⟩
      · replace h := h.2 hc37
        refine wpR_val (v := (Value.pointer (some ((Addr.mk b9 0 none).add 9)))) (w' := w3) (wantG rfl rfl rfl hc37) rfl rfl (x_fieldAddr rfl e1 FA_65_9) ?_
        obtain ⟨x38, q38, h⟩ := h
        refine wpR_val (v := (Value.int .i64 x38)) (w' := w3) (wantG rfl rfl rfl hc37) rfl rfl (x_load1 rfl rfl SH_3 q38) ?_
        refine wpR_enter (wantG rfl rfl rfl hc37) rfl rfl (x_call (vs := [(Value.int .i64 x38), (Value.int .i64 1), (Value.int .i64 20)]) rfl rfl (mapl_cons rfl (mapl_cons rfl (mapl_cons rfl mapl_nil))) Tryz.func71 NN_71 NB_71) (Calls.mono h ?_)
        rintro _ w4 ⟨r39, rfl, h⟩
        refine ⟨_, rfl, ?_⟩
        refine wpR_val (v := (Value.bool (!r39))) (w' := w4) (wantG rfl rfl rfl hc37) rfl rfl (x_not rfl rfl) ?_
        refine rv (Value.bool (!r39)) w4 rfl rfl rfl (x_pickF (v := (Value.bool (!r39))) rfl rfl hc37 rfl) ?_
        refine wpR_nil ?_
        exact ⟨!r39, ⟨rfl, e1, trivial⟩, h⟩
    clear h
    rintro c40 ρ w5 ⟨e17, e1, -⟩ h
    replace h := hk c40 w5 h
    clear hk
    refine rv (Value.bool c40) w5 rfl rfl rfl (x_move rfl e17) ?_
    obtain ⟨J41, h, hk⟩ := h
    refine wpR_joinJ 4 (fun x ρ => ρ 22 = Value.bool x ∧ ρ 1 = (Value.pointer (some (Addr.mk b9 0 none))) ∧ True) (fun x w => J41 x ∧ w5 = w) ?_ ?_
    · clear hk
      rcases Bool.eq_false_or_eq_true (c40) with hc42 | hc42
      · replace h := h.1 hc42
        refine wpR_pass (wantN rfl rfl rfl hc42) rfl rfl ?_
        refine wpR_pass (wantN rfl rfl rfl hc42) rfl rfl ?_
        refine wpR_pass (wantN rfl rfl rfl hc42) rfl rfl ?_
        refine rv (Value.bool true) w5 rfl rfl rfl (x_pickT (v := (Value.bool true)) rfl rfl hc42 rfl) ?_
        refine wpR_nil ?_
        exact ⟨true, ⟨rfl, e1, trivial⟩, h, rfl⟩
      · replace h := h.2 hc42
        refine wpR_val (v := (Value.pointer (some ((Addr.mk b9 0 none).add 10)))) (w' := w5) (wantG rfl rfl rfl hc42) rfl rfl (x_fieldAddr rfl e1 FA_65_10) ?_
        obtain ⟨x43, q43, h⟩ := h
        refine wpR_val (v := (Value.int .i64 x43)) (w' := w5) (wantG rfl rfl rfl hc42) rfl rfl (x_load1 rfl rfl SH_3 q43) ?_
        refine wpR_val (v := (Value.bool (decide (4 < x43)))) (w' := w5) (wantG rfl rfl rfl hc42) rfl rfl (x_gtr rfl rfl rfl) ?_
        refine rv (Value.bool (decide (4 < x43))) w5 rfl rfl rfl (x_pickF (v := (Value.bool (decide (4 < x43)))) rfl rfl hc42 rfl) ?_
        refine wpR_nil ?_
        exact ⟨decide (4 < x43), ⟨rfl, e1, trivial⟩, h, rfl⟩
    clear h
    rintro c44 ρ wj ⟨e22, e1, -⟩ ⟨h, rfl⟩
    replace h := hk c44 h
    clear hk
    refine rv (Value.bool c44) w5 rfl rfl rfl (x_move rfl e22) ?_
    obtain ⟨J45, h, hk⟩ := h
    refine wpR_joinJ 4 (fun x ρ => ρ 27 = Value.bool x ∧ ρ 1 = (Value.pointer (some (Addr.mk b9 0 none))) ∧ True) (fun x w => J45 x ∧ w5 = w) ?_ ?_
    · clear hk
      rcases Bool.eq_false_or_eq_true (c44) with hc46 | hc46
      · replace h := h.1 hc46
        refine wpR_pass (wantN rfl rfl rfl hc46) rfl rfl ?_
        refine wpR_pass (wantN rfl rfl rfl hc46) rfl rfl ?_
        refine wpR_pass (wantN rfl rfl rfl hc46) rfl rfl ?_
        refine rv (Value.bool true) w5 rfl rfl rfl (x_pickT (v := (Value.bool true)) rfl rfl hc46 rfl) ?_
        refine wpR_nil ?_
        exact ⟨true, ⟨rfl, e1, trivial⟩, h, rfl⟩
      · replace h := h.2 hc46
        refine wpR_val (v := (Value.pointer (some ((Addr.mk b9 0 none).add 11)))) (w' := w5) (wantG rfl rfl rfl hc46) rfl rfl (x_fieldAddr rfl e1 FA_65_11) ?_
        obtain ⟨x47, q47, h⟩ := h
        refine wpR_val (v := (Value.int .i64 x47)) (w' := w5) (wantG rfl rfl rfl hc46) rfl rfl (x_load1 rfl rfl SH_3 q47) ?_
        refine wpR_val (v := (Value.bool (decide (65536 < x47)))) (w' := w5) (wantG rfl rfl rfl hc46) rfl rfl (x_gtr rfl rfl rfl) ?_
        refine rv (Value.bool (decide (65536 < x47))) w5 rfl rfl rfl (x_pickF (v := (Value.bool (decide (65536 < x47)))) rfl rfl hc46 rfl) ?_
        refine wpR_nil ?_
        exact ⟨decide (65536 < x47), ⟨rfl, e1, trivial⟩, h, rfl⟩
    clear h
    rintro c48 ρ wj ⟨e27, e1, -⟩ ⟨h, rfl⟩
    replace h := hk c48 h
    clear hk
    refine rv (Value.bool c48) w5 rfl rfl rfl (x_move rfl e27) ?_
    obtain ⟨J49, h, hk⟩ := h
    refine wpR_joinJ 4 (fun x ρ => ρ 32 = Value.bool x ∧ ρ 1 = (Value.pointer (some (Addr.mk b9 0 none))) ∧ True) (fun x w => J49 x ∧ w5 = w) ?_ ?_
    · clear hk
      rcases Bool.eq_false_or_eq_true (c48) with hc50 | hc50
      · replace h := h.1 hc50
        refine wpR_pass (wantN rfl rfl rfl hc50) rfl rfl ?_
        refine wpR_pass (wantN rfl rfl rfl hc50) rfl rfl ?_
        refine wpR_pass (wantN rfl rfl rfl hc50) rfl rfl ?_
        refine rv (Value.bool true) w5 rfl rfl rfl (x_pickT (v := (Value.bool true)) rfl rfl hc50 rfl) ?_
        refine wpR_nil ?_
        exact ⟨true, ⟨rfl, e1, trivial⟩, h, rfl⟩
      · replace h := h.2 hc50
        refine wpR_val (v := (Value.pointer (some ((Addr.mk b9 0 none).add 18)))) (w' := w5) (wantG rfl rfl rfl hc50) rfl rfl (x_fieldAddr rfl e1 FA_65_18) ?_
        obtain ⟨x51, q51, h⟩ := h
        refine wpR_val (v := (Value.int .i64 x51)) (w' := w5) (wantG rfl rfl rfl hc50) rfl rfl (x_load1 rfl rfl SH_3 q51) ?_
        refine wpR_val (v := (Value.bool (decide (x51 < 1)))) (w' := w5) (wantG rfl rfl rfl hc50) rfl rfl (x_lss rfl rfl rfl) ?_
        refine rv (Value.bool (decide (x51 < 1))) w5 rfl rfl rfl (x_pickF (v := (Value.bool (decide (x51 < 1)))) rfl rfl hc50 rfl) ?_
        refine wpR_nil ?_
        exact ⟨decide (x51 < 1), ⟨rfl, e1, trivial⟩, h, rfl⟩
    clear h
    rintro c52 ρ wj ⟨e32, e1, -⟩ ⟨h, rfl⟩
    replace h := hk c52 h
    clear hk
    refine rv (Value.bool c52) w5 rfl rfl rfl (x_move rfl e32) ?_
    obtain ⟨J53, h, hk⟩ := h
    refine wpR_joinJ 11 (fun x ρ => ρ 44 = Value.bool x ∧ ρ 1 = (Value.pointer (some (Addr.mk b9 0 none))) ∧ True) (fun x w => J53 x ∧ w5 = w) ?_ ?_
    · clear hk
      rcases Bool.eq_false_or_eq_true (c52) with hc54 | hc54
      · replace h := h.1 hc54
        refine wpR_pass (wantN rfl rfl rfl hc54) rfl rfl ?_
        refine wpR_pass (wantN rfl rfl rfl hc54) rfl rfl ?_
        refine wpR_pass (wantN rfl rfl rfl hc54) rfl rfl ?_
        refine wpR_pass (wantN rfl rfl rfl hc54) rfl rfl ?_
        refine wpR_pass (wantU rfl rfl rfl) rfl rfl ?_
        refine wpR_pass (wantU rfl rfl rfl) rfl rfl ?_
        refine wpR_pass (wantU rfl rfl rfl) rfl rfl ?_
        refine wpR_pass (wantU rfl rfl rfl) rfl rfl ?_
        refine wpR_pass (wantU rfl rfl rfl) rfl rfl ?_
        refine wpR_pass (wantN rfl rfl rfl hc54) rfl rfl ?_
        refine rv (Value.bool true) w5 rfl rfl rfl (x_pickT (v := (Value.bool true)) rfl rfl hc54 rfl) ?_
        refine wpR_nil ?_
        exact ⟨true, ⟨rfl, e1, trivial⟩, h, rfl⟩
      · replace h := h.2 hc54
        refine wpR_val (v := (Value.pointer (some ((Addr.mk b9 0 none).add 19)))) (w' := w5) (wantG rfl rfl rfl hc54) rfl rfl (x_fieldAddr rfl e1 FA_65_19) ?_
        obtain ⟨x55, q55, h⟩ := h
        refine wpR_val (v := (Value.int .i64 x55)) (w' := w5) (wantG rfl rfl rfl hc54) rfl rfl (x_load1 rfl rfl SH_3 q55) ?_
        refine wpR_val (v := (Value.bool (!decide (x55 = 0)))) (w' := w5) (wantG rfl rfl rfl hc54) rfl rfl (x_neq rfl rfl rfl) ?_
        refine wpR_val (v := (Value.bool (!decide (x55 = 0)))) (w' := w5) (wantG rfl rfl rfl hc54) rfl rfl (x_move rfl rfl) ?_
        obtain ⟨J56, h, hk⟩ := h
        refine wpR_joinJ 6 (fun x ρ => ρ 43 = Value.bool x ∧ ρ 1 = (Value.pointer (some (Addr.mk b9 0 none))) ∧ ρ 33 = (Value.bool c52) ∧ True) (fun x w => J56 x ∧ w5 = w) ?_ ?_
        · clear hk
          rcases Bool.eq_false_or_eq_true (!decide (x55 = 0)) with hc57 | hc57
          · replace h := h.1 hc57
            refine wpR_val (v := (Value.pointer (some ((Addr.mk b9 0 none).add 19)))) (w' := w5) (wantG rfl rfl rfl hc57) rfl rfl (x_fieldAddr rfl e1 FA_65_19) ?_
            obtain ⟨x58, q58, h⟩ := h
            refine wpR_val (v := (Value.int .i64 x58)) (w' := w5) (wantG rfl rfl rfl hc57) rfl rfl (x_load1 rfl rfl SH_3 q58) ?_
            refine wpR_val (v := (Value.pointer (some ((Addr.mk b9 0 none).add 20)))) (w' := w5) (wantG rfl rfl rfl hc57) rfl rfl (x_fieldAddr rfl e1 FA_65_20) ?_
            obtain ⟨x59, q59, h⟩ := h
            refine wpR_val (v := (Value.int .i64 x59)) (w' := w5) (wantG rfl rfl rfl hc57) rfl rfl (x_load1 rfl rfl SH_3 q59) ?_
            refine wpR_val (v := (Value.bool (decide (x59 ≤ x58)))) (w' := w5) (wantG rfl rfl rfl hc57) rfl rfl (x_geq rfl rfl rfl) ?_
            refine wpR_val (v := (Value.bool (decide (x59 ≤ x58)))) (w' := w5) (wantG rfl rfl rfl hc54) rfl rfl (x_pickT (v := (Value.bool (decide (x59 ≤ x58)))) rfl rfl hc57 rfl) ?_
            refine wpR_nil ?_
            exact ⟨decide (x59 ≤ x58), ⟨rfl, e1, rfl, trivial⟩, h, rfl⟩
          · replace h := h.2 hc57
            refine wpR_pass (wantN rfl rfl rfl hc57) rfl rfl ?_
            refine wpR_pass (wantN rfl rfl rfl hc57) rfl rfl ?_
            refine wpR_pass (wantN rfl rfl rfl hc57) rfl rfl ?_
            refine wpR_pass (wantN rfl rfl rfl hc57) rfl rfl ?_
            refine wpR_pass (wantN rfl rfl rfl hc57) rfl rfl ?_
            refine wpR_val (v := (Value.bool false)) (w' := w5) (wantG rfl rfl rfl hc54) rfl rfl (x_pickF (v := (Value.bool false)) rfl rfl hc57 rfl) ?_
            refine wpR_nil ?_
            exact ⟨false, ⟨rfl, e1, rfl, trivial⟩, h, rfl⟩
        clear h
        rintro c60 ρ wj ⟨e43, e1, e33, -⟩ ⟨h, rfl⟩
        replace h := hk c60 h
        clear hk
        refine rv (Value.bool c60) w5 rfl rfl rfl (x_pickF (v := (Value.bool c60)) rfl e33 hc54 e43) ?_
        refine wpR_nil ?_
        exact ⟨c60, ⟨rfl, e1, trivial⟩, h, rfl⟩
    clear h
    rintro c61 ρ wj ⟨e44, e1, -⟩ ⟨h, rfl⟩
    replace h := hk c61 h
    clear hk
    refine rv (Value.bool c61) w5 rfl rfl rfl (x_move rfl e44) ?_
    obtain ⟨J62, h, hk⟩ := h
    refine wpR_joinJ 4 (fun x ρ => ρ 49 = Value.bool x ∧ ρ 1 = (Value.pointer (some (Addr.mk b9 0 none))) ∧ True) (J62) ?_ ?_
    · clear hk
      rcases Bool.eq_false_or_eq_true (c61) with hc63 | hc63
      · replace h := h.1 hc63
        refine wpR_pass (wantN rfl rfl rfl hc63) rfl rfl ?_
        refine wpR_pass (wantN rfl rfl rfl hc63) rfl rfl ?_
        refine wpR_pass (wantN rfl rfl rfl hc63) rfl rfl ?_
        refine rv (Value.bool true) w5 rfl rfl rfl (x_pickT (v := (Value.bool true)) rfl rfl hc63 rfl) ?_
        refine wpR_nil ?_
        exact ⟨true, ⟨rfl, e1, trivial⟩, h⟩
      · replace h := h.2 hc63
        obtain ⟨x64, q64, x65, q65, x66, q66, x67, q67, x68, q68, x69, q69, x70, q70, x71, q71, x72, q72, x73, q73, x74, q74, x75, q75, x76, q76, x77, q77, x78, q78, x79, q79, x80, q80, x81, q81, x82, q82, x83, q83, x84, q84, x85, q85, h⟩ := h
        refine wpR_val (v := (V64 x64 x65 x66 x67 x68 x69 x70 x71 x72 x73 x74 x75 x76 x77 x78 x79 x80 x81 x82 x83 x84 x85)) (w' := w5) (wantG rfl rfl rfl hc63) rfl rfl (x_loadN (S64 x64 x65 x66 x67 x68 x69 x70 x71 x72 x73 x74 x75 x76 x77 x78 x79 x80 x81 x82 x83 x84 x85) rfl e1 SH_65 (K64 ⟨q64, q65, q66, q67, q68, q69, q70, q71, q72, q73, q74, q75, q76, q77, q78, q79, q80, q81, q82, q83, q84, q85⟩)) ?_
        refine wpR_enter (wantG rfl rfl rfl hc63) rfl rfl (x_call (vs := [(V64 x64 x65 x66 x67 x68 x69 x70 x71 x72 x73 x74 x75 x76 x77 x78 x79 x80 x81 x82 x83 x84 x85)]) rfl rfl (mapl_cons rfl mapl_nil) Tryz.func72 NN_72 NB_72) (Calls.mono h ?_)
        rintro _ w6 ⟨r86, rfl, h⟩
        refine ⟨_, rfl, ?_⟩
        refine wpR_val (v := (Value.bool (!r86))) (w' := w6) (wantG rfl rfl rfl hc63) rfl rfl (x_not rfl rfl) ?_
        refine rv (Value.bool (!r86)) w6 rfl rfl rfl (x_pickF (v := (Value.bool (!r86))) rfl rfl hc63 rfl) ?_
        refine wpR_nil ?_
        exact ⟨!r86, ⟨rfl, e1, trivial⟩, h⟩
    clear h
    rintro c87 ρ w7 ⟨e49, e1, -⟩ h
    replace h := hk c87 w7 h
    clear hk
    refine wpR_nil ?_
    refine wpC_cond (b := c87) e49 (fun hc88 => ?_) (fun hc88 => ?_)
    · replace h := h.1 hc88
      refine wpC_seq ?_
      refine wpC_region ?_
      refine rv (Value.int .i64 3) w7 rfl rfl rfl (x_assign rfl rfl) ?_
      refine wpR_nil ?_
      refine wpC_ret ?_
      exact ⟨.inl rfl, fun a ha => ⟨_, results_rep1 rfl ha rfl, 3, rfl, h⟩⟩
    · replace h := h.2 hc88
      refine wpC_skip ?_
      refine wpC_seq ?_
      refine wpC_seq ?_
      refine wpC_region ?_
      refine rv (Value.pointer (some ((Addr.mk b9 0 none).add 12))) w7 rfl rfl rfl (x_fieldAddr rfl e1 FA_65_12) ?_
      obtain ⟨x89, q89, h⟩ := h
      refine rv (Sl.v x89) w7 rfl rfl rfl (x_load1 rfl rfl SH_63 q89) ?_
      refine rv (Value.int .i64 (x89.len : Int)) w7 rfl rfl rfl (x_lenS (s := x89) rfl rfl isSliceT_63) ?_
      refine rv (Value.int .i64 0) w7 rfl rfl rfl (x_move rfl rfl) ?_
      refine wpR_nil ?_
      refine wpC_block ?_
      obtain ⟨I90, μ90, hI90, hr90⟩ := h
      refine wpC_loop (fun (x : Int) ρ => ρ 53 = (Value.int .i64 x) ∧ ρ 1 = (Value.pointer (some (Addr.mk b9 0 none))) ∧ ρ 51 = (Sl.v x89) ∧ ρ 52 = (Value.int .i64 (x89.len : Int)) ∧ True) I90 μ90 0 ⟨rfl, e1, rfl, rfl, trivial⟩ hI90 ?_
      rintro l90 ρ w8 ⟨e53, e1, e51, e52, -⟩ h
      replace h := hr90 l90 w8 h
      clear hr90 hI90
      refine wpC_seq ?_
      refine wpC_region ?_
      refine rv (Value.bool (decide (l90 < (x89.len : Int)))) w8 rfl rfl rfl (x_lss rfl e53 e52) ?_
      refine wpR_nil ?_
      refine wpC_seq ?_
      refine wpC_cond (b := decide (l90 < (x89.len : Int))) rfl (fun hc91 => ?_) (fun hc91 => ?_)
      · replace h := h.1 hc91
        refine wpC_skip ?_
        refine wpC_seq ?_
        refine wpC_block ?_
        refine wpC_seq ?_
        refine wpC_cut (fun ρ => ρ 1 = (Value.pointer (some (Addr.mk b9 0 none))) ∧ ρ 51 = (Sl.v x89) ∧ ρ 52 = (Value.int .i64 (x89.len : Int)) ∧ ρ 53 = (Value.int .i64 l90) ∧ True) ⟨e1, e51, e52, e53, trivial⟩ ?_
        rintro ρ ⟨e1, e51, e52, e53, -⟩
        refine wpC_region ?_
        refine rv (Value.int .i64 l90) w8 rfl rfl rfl (x_move rfl e53) ?_
        obtain ⟨q92, z92, r92, h⟩ := h
        generalize hp92 : z92.add ((l90 : Int).toNat * 1) = p92 at h
        refine rv (Value.pointer (some p92)) w8 rfl rfl rfl ((x_indexAddr (s := x89) rfl e51 e53 ES_63 q92 r92).trans (by rw [hp92])) ?_
        obtain ⟨x93, q93, h⟩ := h
        refine rv (Value.string x93) w8 rfl rfl rfl (x_load1 rfl rfl SH_9 q93) ?_
        refine rv (Value.int .i64 l90) w8 rfl rfl rfl (x_assign rfl rfl) ?_
        refine rv (Value.string x93) w8 rfl rfl rfl (x_assign rfl rfl) ?_
        refine wpR_nil ?_
        refine wpC_seq ?_
        refine wpC_cut (fun ρ => ρ 1 = (Value.pointer (some (Addr.mk b9 0 none))) ∧ ρ 3 = (Value.int .i64 l90) ∧ ρ 4 = (Value.string x93) ∧ ρ 51 = (Sl.v x89) ∧ ρ 52 = (Value.int .i64 (x89.len : Int)) ∧ ρ 53 = (Value.int .i64 l90) ∧ True) ⟨e1, rfl, rfl, e51, e52, e53, trivial⟩ ?_
        rintro ρ ⟨e1, e3, e4, e51, e52, e53, -⟩
        refine wpC_region ?_
        refine rv (Value.pointer (some ((Addr.mk b9 0 none).add 12))) w8 rfl rfl rfl (x_fieldAddr rfl e1 FA_65_12) ?_
        obtain ⟨x94, q94, h⟩ := h
        refine rv (Sl.v x94) w8 rfl rfl rfl (x_load1 rfl rfl SH_63 q94) ?_
        refine rv (Value.int .i64 l90) w8 rfl rfl rfl (x_move rfl e3) ?_
        obtain ⟨r95, w9, q95, h⟩ := h
        refine rv (Sl.v r95) w9 rfl rfl rfl (x_sliceAt rfl rfl rfl (congrArg some rfl) rfl q95) ?_
        refine rv (Value.string x93) w9 rfl rfl rfl (x_move rfl e4) ?_
        refine wpR_enter rfl rfl rfl (x_call (vs := [(Sl.v r95), (Value.string x93)]) rfl rfl (mapl_cons rfl (mapl_cons rfl mapl_nil)) Tryz.func73 NN_73 NB_73) (Calls.mono h ?_)
        rintro _ w10 ⟨r96, rfl, h⟩
        refine ⟨_, rfl, ?_⟩
        refine wpR_nil ?_
        refine wpC_cond (b := r96) rfl (fun hc97 => ?_) (fun hc97 => ?_)
        · replace h := h.1 hc97
          refine wpC_seq ?_
          refine wpC_cut (fun ρ => True) trivial ?_
          rintro ρ -
          refine wpC_region ?_
          refine rv (Value.int .i64 5) w10 rfl rfl rfl (x_assign rfl rfl) ?_
          refine wpR_nil ?_
          refine wpC_ret ?_
          exact ⟨.inl rfl, fun a ha => ⟨_, results_rep1 rfl ha rfl, 5, rfl, h⟩⟩
        · replace h := h.2 hc97
          refine wpC_skip ?_
          refine wpC_cut (fun ρ => ρ 1 = (Value.pointer (some (Addr.mk b9 0 none))) ∧ ρ 51 = (Sl.v x89) ∧ ρ 52 = (Value.int .i64 (x89.len : Int)) ∧ ρ 53 = (Value.int .i64 l90) ∧ True) ⟨e1, e51, e52, e53, trivial⟩ ?_
          rintro ρ ⟨e1, e51, e52, e53, -⟩
          refine wpC_region ?_
          refine rv (Value.int .i64 (IntKind.i64.wrap (l90 + 1))) w10 rfl rfl rfl (x_add rfl e53 rfl) ?_
          refine rv (Value.int .i64 (IntKind.i64.wrap (l90 + 1))) w10 rfl rfl rfl (x_move rfl rfl) ?_
          refine wpR_nil ?_
          exact ⟨IntKind.i64.wrap (l90 + 1), ⟨rfl, e1, e51, e52, trivial⟩, h⟩
      · replace h := h.2 hc91
        refine wpC_exit ?_
        refine wpC_seq ?_
        refine wpC_cut (fun ρ => True) trivial ?_
        rintro ρ -
        refine wpC_region ?_
        refine rv (Value.int .i64 0) w8 rfl rfl rfl (x_assign rfl rfl) ?_
        refine wpR_nil ?_
        refine wpC_ret ?_
        exact ⟨.inl rfl, fun a ha => ⟨_, results_rep1 rfl ha rfl, 0, rfl, h⟩⟩

/-- queue.Step$1 -/
def F49 (p0 : Int) (p1 : Int) (c2 : Addr) (w0 : World) (K : Int → World → Prop) : Prop :=
  jn (fun (J10 : Int → World → Prop) => tk w0 fun w1 =>
    ld Sl.v c2 w1 fun x11 =>
    ix x11 p0 4 fun p12 =>
    ld (Value.int .i64) (p12.add 3) w1 fun x13 =>
    ld Sl.v c2 w1 fun x14 =>
    ix x14 p1 4 fun p15 =>
    ld (Value.int .i64) (p15.add 3) w1 fun x16 =>
    ld Sl.v c2 w1 fun x17 =>
    ix x17 p0 4 fun p18 =>
    ld (Value.int .i64) (p18.add 0) w1 fun x19 =>
    ld Sl.v c2 w1 fun x20 =>
    ix x20 p1 4 fun p21 =>
    ld (Value.int .i64) (p21.add 0) w1 fun x22 =>
    callC Tryz.prog 51 #[(Value.int .i64 x13), (Value.int .i64 x16)] (fun (r : Int) => (Value.int .i64 r)) w1 fun r23 w2 =>
    (w2.cell? (p21.add 0) = some (Value.int .i64 x22)) ∧
    (w2.cell? c2 = some (Sl.v x20)) ∧
    (w2.cell? (p18.add 0) = some (Value.int .i64 x19)) ∧
    (w2.cell? c2 = some (Sl.v x17)) ∧
    (w2.cell? c2 = some (Sl.v x14)) ∧
    (w2.cell? c2 = some (Sl.v x11)) ∧
    callC Tryz.prog 51 #[(Value.int .i64 x19), (Value.int .i64 x22)] (fun (r : Int) => (Value.int .i64 r)) w2 fun r24 w3 =>
    (w3.cell? c2 = some (Sl.v x20)) ∧
    (w3.cell? c2 = some (Sl.v x17)) ∧
    (w3.cell? c2 = some (Sl.v x14)) ∧
    (w3.cell? c2 = some (Sl.v x11)) ∧
    nw 3 #[(Value.int .i64 r23), (Value.int .i64 r24)] w3 fun b25 w4 =>
    (w4.cell? c2 = some (Sl.v x20)) ∧
    (w4.cell? c2 = some (Sl.v x17)) ∧
    (w4.cell? c2 = some (Sl.v x14)) ∧
    (w4.cell? c2 = some (Sl.v x11)) ∧
    callC Tryz.prog 50 #[(Sl.v (⟨some ⟨b25, 0, none⟩, 2, 2⟩ : Sl))] (fun (r : Int) => (Value.int .i64 r)) w4 fun r26 w5 =>
    (w5.cell? c2 = some (Sl.v x20)) ∧
    (w5.cell? c2 = some (Sl.v x17)) ∧
    (w5.cell? c2 = some (Sl.v x14)) ∧
    (w5.cell? c2 = some (Sl.v x11)) ∧
    J10 r26 w5
  )
  fun l27 w6 =>
  K l27 w6
set_option maxRecDepth 100000 in
theorem D49 (p0 : Int) (p1 : Int) (c2 : Addr) (w0 : World) (K : Int → World → Prop) (h : F49 p0 p1 c2 w0 K) : callC Tryz.prog 49 #[(Value.int .i64 p0), (Value.int .i64 p1), (Value.pointer (some c2))] (fun (r : Int) => (Value.int .i64 r)) w0 K := by
  unfold F49 at h
  refine calls_of_wpC Tryz.func49 rfl 30 rfl (by simp) ?_
  intro ρ hρ
  have e0 : ρ 0 = (Value.int .i64 p0) := hρ 0
  have e1 : ρ 1 = (Value.int .i64 p1) := hρ 1
  have e2 : ρ 2 = (Value.pointer (some c2)) := hρ 2
  clear hρ
  refine wpC_seq ?_
  refine wpC_region ?_
  refine rv (Value.int .i64 0) w0 rfl rfl rfl (x_assign rfl rfl) ?_
  refine wpR_nil ?_
  refine wpC_seq ?_
  refine wpC_cut (fun ρ => ρ 0 = (Value.int .i64 p0) ∧ ρ 1 = (Value.int .i64 p1) ∧ ρ 2 = (Value.pointer (some c2)) ∧ True) ⟨e0, e1, e2, trivial⟩ ?_
  rintro ρ ⟨e0, e1, e2, -⟩
  obtain ⟨J10, h, hk⟩ := h
  refine wpC_drawJ (by kernel_rfl) (fun (x : Int) ρ => ρ 5 = (Value.int .i64 x) ∧ True) J10 ?_ ?_
  · clear hk
    unfold tk at h
    generalize w0.drew = w1 at h ⊢
    obtain ⟨x11, q11, h⟩ := h
    refine wpD_take (v := (Sl.v x11)) 0 (fun w => w.cell? c2 = some (Sl.v x11)) rfl (by kernel_rfl) (by kernel_rfl) (by kernel_rfl) rfl rfl rfl q11 (fun w q11 => (x_load1 rfl e2 SH_66 q11)) ?_
    refine wpD_take (v := (Value.int .i64 p0)) 1 (fun _ => True) rfl (by kernel_rfl) (by kernel_rfl) (by kernel_rfl) rfl rfl rfl trivial (fun w _ => (x_move (v := (Value.int .i64 p0)) rfl e0)) ?_
    obtain ⟨q12, z12, r12, h⟩ := h
    generalize hp12 : z12.add ((p0 : Int).toNat * 4) = p12 at h
    refine wpD_take (v := (Value.pointer (some p12))) 2 (fun _ => True) rfl (by kernel_rfl) (by kernel_rfl) (by kernel_rfl) rfl rfl rfl trivial (fun w _ => ((x_indexAddr (s := x11) rfl rfl rfl ES_66 q12 r12).trans (by rw [hp12]))) ?_
    refine wpD_take (v := (Value.pointer (some (p12.add 3)))) 3 (fun _ => True) rfl (by kernel_rfl) (by kernel_rfl) (by kernel_rfl) rfl rfl rfl trivial (fun w _ => (x_fieldAddr rfl rfl FA_70_3)) ?_
    obtain ⟨x13, q13, h⟩ := h
    refine wpD_take (v := (Value.int .i64 x13)) 4 (fun w => w.cell? (p12.add 3) = some (Value.int .i64 x13)) rfl (by kernel_rfl) (by kernel_rfl) (by kernel_rfl) rfl rfl rfl q13 (fun w q13 => (x_load1 rfl rfl SH_3 q13)) ?_
    obtain ⟨x14, q14, h⟩ := h
    refine wpD_take (v := (Sl.v x14)) 5 (fun w => w.cell? c2 = some (Sl.v x14)) rfl (by kernel_rfl) (by kernel_rfl) (by kernel_rfl) rfl rfl rfl q14 (fun w q14 => (x_load1 rfl e2 SH_66 q14)) ?_
    refine wpD_take (v := (Value.int .i64 p1)) 6 (fun _ => True) rfl (by kernel_rfl) (by kernel_rfl) (by kernel_rfl) rfl rfl rfl trivial (fun w _ => (x_move (v := (Value.int .i64 p1)) rfl e1)) ?_
    obtain ⟨q15, z15, r15, h⟩ := h
    generalize hp15 : z15.add ((p1 : Int).toNat * 4) = p15 at h
    refine wpD_take (v := (Value.pointer (some p15))) 7 (fun _ => True) rfl (by kernel_rfl) (by kernel_rfl) (by kernel_rfl) rfl rfl rfl trivial (fun w _ => ((x_indexAddr (s := x14) rfl rfl rfl ES_66 q15 r15).trans (by rw [hp15]))) ?_
    refine wpD_take (v := (Value.pointer (some (p15.add 3)))) 8 (fun _ => True) rfl (by kernel_rfl) (by kernel_rfl) (by kernel_rfl) rfl rfl rfl trivial (fun w _ => (x_fieldAddr rfl rfl FA_70_3)) ?_
    obtain ⟨x16, q16, h⟩ := h
    refine wpD_take (v := (Value.int .i64 x16)) 9 (fun w => w.cell? (p15.add 3) = some (Value.int .i64 x16)) rfl (by kernel_rfl) (by kernel_rfl) (by kernel_rfl) rfl rfl rfl q16 (fun w q16 => (x_load1 rfl rfl SH_3 q16)) ?_
    obtain ⟨x17, q17, h⟩ := h
    refine wpD_take (v := (Sl.v x17)) 11 (fun w => w.cell? c2 = some (Sl.v x17)) rfl (by kernel_rfl) (by kernel_rfl) (by kernel_rfl) rfl rfl rfl q17 (fun w q17 => (x_load1 rfl e2 SH_66 q17)) ?_
    refine wpD_take (v := (Value.int .i64 p0)) 12 (fun _ => True) rfl (by kernel_rfl) (by kernel_rfl) (by kernel_rfl) rfl rfl rfl trivial (fun w _ => (x_move (v := (Value.int .i64 p0)) rfl e0)) ?_
    obtain ⟨q18, z18, r18, h⟩ := h
    generalize hp18 : z18.add ((p0 : Int).toNat * 4) = p18 at h
    refine wpD_take (v := (Value.pointer (some p18))) 13 (fun _ => True) rfl (by kernel_rfl) (by kernel_rfl) (by kernel_rfl) rfl rfl rfl trivial (fun w _ => ((x_indexAddr (s := x17) rfl rfl rfl ES_66 q18 r18).trans (by rw [hp18]))) ?_
    refine wpD_take (v := (Value.pointer (some (p18.add 0)))) 14 (fun _ => True) rfl (by kernel_rfl) (by kernel_rfl) (by kernel_rfl) rfl rfl rfl trivial (fun w _ => (x_fieldAddr rfl rfl FA_70_0)) ?_
    obtain ⟨x19, q19, h⟩ := h
    refine wpD_take (v := (Value.int .i64 x19)) 15 (fun w => w.cell? (p18.add 0) = some (Value.int .i64 x19)) rfl (by kernel_rfl) (by kernel_rfl) (by kernel_rfl) rfl rfl rfl q19 (fun w q19 => (x_load1 rfl rfl SH_3 q19)) ?_
    obtain ⟨x20, q20, h⟩ := h
    refine wpD_take (v := (Sl.v x20)) 16 (fun w => w.cell? c2 = some (Sl.v x20)) rfl (by kernel_rfl) (by kernel_rfl) (by kernel_rfl) rfl rfl rfl q20 (fun w q20 => (x_load1 rfl e2 SH_66 q20)) ?_
    refine wpD_take (v := (Value.int .i64 p1)) 17 (fun _ => True) rfl (by kernel_rfl) (by kernel_rfl) (by kernel_rfl) rfl rfl rfl trivial (fun w _ => (x_move (v := (Value.int .i64 p1)) rfl e1)) ?_
    obtain ⟨q21, z21, r21, h⟩ := h
    generalize hp21 : z21.add ((p1 : Int).toNat * 4) = p21 at h
    refine wpD_take (v := (Value.pointer (some p21))) 18 (fun _ => True) rfl (by kernel_rfl) (by kernel_rfl) (by kernel_rfl) rfl rfl rfl trivial (fun w _ => ((x_indexAddr (s := x20) rfl rfl rfl ES_66 q21 r21).trans (by rw [hp21]))) ?_
    refine wpD_take (v := (Value.pointer (some (p21.add 0)))) 19 (fun _ => True) rfl (by kernel_rfl) (by kernel_rfl) (by kernel_rfl) rfl rfl rfl trivial (fun w _ => (x_fieldAddr rfl rfl FA_70_0)) ?_
    obtain ⟨x22, q22, h⟩ := h
    refine wpD_take (v := (Value.int .i64 x22)) 20 (fun w => w.cell? (p21.add 0) = some (Value.int .i64 x22)) rfl (by kernel_rfl) (by kernel_rfl) (by kernel_rfl) rfl rfl rfl q22 (fun w q22 => (x_load1 rfl rfl SH_3 q22)) ?_
    refine wpD_all (rs := [10]) (by kernel_rfl) (by simp) (allD_cons ?_ allD_nil)
    refine stepD_enterL (L' := [(20, fun w => w.cell? (p21.add 0) = some (Value.int .i64 x22)), (19, fun _ => True), (18, fun _ => True), (17, fun _ => True), (16, fun w => w.cell? c2 = some (Sl.v x20)), (15, fun w => w.cell? (p18.add 0) = some (Value.int .i64 x19)), (14, fun _ => True), (13, fun _ => True), (12, fun _ => True), (11, fun w => w.cell? c2 = some (Sl.v x17)), (8, fun _ => True), (7, fun _ => True), (6, fun _ => True), (5, fun w => w.cell? c2 = some (Sl.v x14)), (3, fun _ => True), (2, fun _ => True), (1, fun _ => True), (0, fun w => w.cell? c2 = some (Sl.v x11))]) rfl rfl rfl rfl (x_call (vs := [(Value.int .i64 x13), (Value.int .i64 x16)]) rfl rfl (mapl_cons rfl (mapl_cons rfl mapl_nil)) Tryz.func51 NN_51 NB_51) (by kernel_rfl) (Calls.mono h ?_)
    rintro _ w2 ⟨r23, rfl, h⟩
    obtain ⟨o20, h⟩ := h
    obtain ⟨o16, h⟩ := h
    obtain ⟨o15, h⟩ := h
    obtain ⟨o11, h⟩ := h
    obtain ⟨o5, h⟩ := h
    obtain ⟨o0, h⟩ := h
    refine ⟨_, rfl, (held_cons o20 (held_cons trivial (held_cons trivial (held_cons trivial (held_cons o16 (held_cons o15 (held_cons trivial (held_cons trivial (held_cons trivial (held_cons o11 (held_cons trivial (held_cons trivial (held_cons trivial (held_cons o5 (held_cons trivial (held_cons trivial (held_cons trivial (held_cons o0 held_nil)))))))))))))))))), ?_⟩
    refine wpD_all (rs := [21]) (by kernel_rfl) (by simp) (allD_cons ?_ allD_nil)
    refine stepD_enterL (L' := [(19, fun _ => True), (18, fun _ => True), (17, fun _ => True), (16, fun w => w.cell? c2 = some (Sl.v x20)), (14, fun _ => True), (13, fun _ => True), (12, fun _ => True), (11, fun w => w.cell? c2 = some (Sl.v x17)), (8, fun _ => True), (7, fun _ => True), (6, fun _ => True), (5, fun w => w.cell? c2 = some (Sl.v x14)), (3, fun _ => True), (2, fun _ => True), (1, fun _ => True), (0, fun w => w.cell? c2 = some (Sl.v x11))]) rfl rfl rfl rfl (x_call (vs := [(Value.int .i64 x19), (Value.int .i64 x22)]) rfl rfl (mapl_cons rfl (mapl_cons rfl mapl_nil)) Tryz.func51 NN_51 NB_51) (by kernel_rfl) (Calls.mono h ?_)
    rintro _ w3 ⟨r24, rfl, h⟩
    obtain ⟨o16, h⟩ := h
    obtain ⟨o11, h⟩ := h
    obtain ⟨o5, h⟩ := h
    obtain ⟨o0, h⟩ := h
    refine ⟨_, rfl, (held_cons trivial (held_cons trivial (held_cons trivial (held_cons o16 (held_cons trivial (held_cons trivial (held_cons trivial (held_cons o11 (held_cons trivial (held_cons trivial (held_cons trivial (held_cons o5 (held_cons trivial (held_cons trivial (held_cons trivial (held_cons o0 held_nil)))))))))))))))), ?_⟩
    refine wpD_all (rs := [22]) (by kernel_rfl) (by simp) (allD_cons ?_ allD_nil)
    obtain ⟨b25, hb25⟩ : ∃ u, u = w3.heap.size := ⟨_, rfl⟩
    obtain ⟨w4, hw25⟩ : ∃ u, u = w3.alloc (.cells #[(Value.int .i64 r23), (Value.int .i64 r24)] 3) := ⟨_, rfl⟩
    replace h := h b25 w4 hb25 hw25
    obtain ⟨o16, h⟩ := h
    obtain ⟨o11, h⟩ := h
    obtain ⟨o5, h⟩ := h
    obtain ⟨o0, h⟩ := h
    refine stepD_valL (L' := [(19, fun _ => True), (18, fun _ => True), (17, fun _ => True), (16, fun w => w.cell? c2 = some (Sl.v x20)), (14, fun _ => True), (13, fun _ => True), (12, fun _ => True), (11, fun w => w.cell? c2 = some (Sl.v x17)), (8, fun _ => True), (7, fun _ => True), (6, fun _ => True), (5, fun w => w.cell? c2 = some (Sl.v x14)), (3, fun _ => True), (2, fun _ => True), (1, fun _ => True), (0, fun w => w.cell? c2 = some (Sl.v x11))]) (v := (Sl.v (⟨some ⟨b25, 0, none⟩, 2, 2⟩ : Sl))) (w' := w4) rfl rfl rfl rfl ((x_buildSlice (qs := [(0, (Value.int .i64 r23)), (1, (Value.int .i64 r24))]) rfl (by rfl) (BS_39_2_0_1 r23 r24)).trans (by rw [← hb25, ← hw25])) (by kernel_rfl) (held_cons trivial (held_cons trivial (held_cons trivial (held_cons o16 (held_cons trivial (held_cons trivial (held_cons trivial (held_cons o11 (held_cons trivial (held_cons trivial (held_cons trivial (held_cons o5 (held_cons trivial (held_cons trivial (held_cons trivial (held_cons o0 held_nil)))))))))))))))) ?_
    refine wpD_all (rs := [23]) (by kernel_rfl) (by simp) (allD_cons ?_ allD_nil)
    refine stepD_enterL (L' := [(19, fun _ => True), (18, fun _ => True), (17, fun _ => True), (16, fun w => w.cell? c2 = some (Sl.v x20)), (14, fun _ => True), (13, fun _ => True), (12, fun _ => True), (11, fun w => w.cell? c2 = some (Sl.v x17)), (8, fun _ => True), (7, fun _ => True), (6, fun _ => True), (5, fun w => w.cell? c2 = some (Sl.v x14)), (3, fun _ => True), (2, fun _ => True), (1, fun _ => True), (0, fun w => w.cell? c2 = some (Sl.v x11))]) rfl rfl rfl rfl (x_call (vs := [(Sl.v (⟨some ⟨b25, 0, none⟩, 2, 2⟩ : Sl))]) rfl rfl (mapl_cons rfl mapl_nil) Tryz.func50 NN_50 NB_50) (by kernel_rfl) (Calls.mono h ?_)
    rintro _ w5 ⟨r26, rfl, h⟩
    obtain ⟨o16, h⟩ := h
    obtain ⟨o11, h⟩ := h
    obtain ⟨o5, h⟩ := h
    obtain ⟨o0, h⟩ := h
    refine ⟨_, rfl, (held_cons trivial (held_cons trivial (held_cons trivial (held_cons o16 (held_cons trivial (held_cons trivial (held_cons trivial (held_cons o11 (held_cons trivial (held_cons trivial (held_cons trivial (held_cons o5 (held_cons trivial (held_cons trivial (held_cons trivial (held_cons o0 held_nil)))))))))))))))), ?_⟩
    refine wpD_take (v := (Value.int .i64 r26)) 24 (fun _ => True) rfl (by kernel_rfl) (by kernel_rfl) (by kernel_rfl) rfl rfl rfl trivial (fun w _ => (x_assign (v := (Value.int .i64 r26)) rfl rfl)) ?_
    exact wpD_done (by kernel_rfl) ⟨r26, ⟨rfl, trivial⟩, h⟩
  clear h
  rintro l27 ρ w6 ⟨e5, -⟩ h
  replace h := hk l27 w6 h
  clear hk
  refine wpC_ret ?_
  exact ⟨.inl rfl, fun a ha => ⟨_, results_rep1 rfl ha e5, l27, rfl, h⟩⟩

/-- cmp.Or[int] -/
def F50 (p0 : Sl) (w0 : World) (K : Int → World → Prop) : Prop :=
  lp (fun (next9 : Int → World → Prop) l9 w1 =>
    cnd (decide (l9 < (p0.len : Int)))
      (
      ix p0 l9 1 fun p11 =>
      ld (Value.int .i64) p11 w1 fun x12 =>
      cnd (!decide (x12 = 0))
        (
        K x12 w1
        )
        (
        next9 (IntKind.i64.wrap (l9 + 1)) w1
        )
      )
      (
      K 0 w1
      )
  ) 0 w0
set_option maxRecDepth 100000 in
theorem D50 (p0 : Sl) (w0 : World) (K : Int → World → Prop) (h : F50 p0 w0 K) : callC Tryz.prog 50 #[(Sl.v p0)] (fun (r : Int) => (Value.int .i64 r)) w0 K := by
  unfold F50 at h
  refine calls_of_wpC Tryz.func50 rfl 18 rfl (by simp) ?_
  intro ρ hρ
  have e0 : ρ 0 = (Sl.v p0) := hρ 0
  clear hρ
  refine wpC_seq ?_
  refine wpC_region ?_
  refine rv (Value.int .i64 0) w0 rfl rfl rfl (x_assign rfl rfl) ?_
  refine wpR_nil ?_
  refine wpC_seq ?_
  refine wpC_cut (fun ρ => ρ 0 = (Sl.v p0) ∧ True) ⟨e0, trivial⟩ ?_
  rintro ρ ⟨e0, -⟩
  refine wpC_region ?_
  refine rv (Value.int .i64 0) w0 rfl rfl rfl (x_assign rfl rfl) ?_
  refine wpR_nil ?_
  refine wpC_seq ?_
  refine wpC_seq ?_
  refine wpC_cut (fun ρ => ρ 0 = (Sl.v p0) ∧ ρ 3 = (Value.int .i64 0) ∧ True) ⟨e0, rfl, trivial⟩ ?_
  rintro ρ ⟨e0, e3, -⟩
  refine wpC_region ?_
  refine rv (Sl.v p0) w0 rfl rfl rfl (x_move rfl e0) ?_
  refine rv (Value.int .i64 (p0.len : Int)) w0 rfl rfl rfl (x_lenS (s := p0) rfl rfl isSliceT_39) ?_
  refine rv (Value.int .i64 0) w0 rfl rfl rfl (x_move rfl rfl) ?_
  refine wpR_nil ?_
  refine wpC_block ?_
  obtain ⟨I9, μ9, hI9, hr9⟩ := h
  refine wpC_loop (fun (x : Int) ρ => ρ 8 = (Value.int .i64 x) ∧ ρ 3 = (Value.int .i64 0) ∧ ρ 6 = (Sl.v p0) ∧ ρ 7 = (Value.int .i64 (p0.len : Int)) ∧ True) I9 μ9 0 ⟨rfl, e3, rfl, rfl, trivial⟩ hI9 ?_
  rintro l9 ρ w1 ⟨e8, e3, e6, e7, -⟩ h
  replace h := hr9 l9 w1 h
  clear hr9 hI9
  refine wpC_seq ?_
  refine wpC_region ?_
  refine rv (Value.bool (decide (l9 < (p0.len : Int)))) w1 rfl rfl rfl (x_lss rfl e8 e7) ?_
  refine wpR_nil ?_
  refine wpC_seq ?_
  refine wpC_cond (b := decide (l9 < (p0.len : Int))) rfl (fun hc10 => ?_) (fun hc10 => ?_)
  · replace h := h.1 hc10
    refine wpC_skip ?_
    refine wpC_seq ?_
    refine wpC_block ?_
    refine wpC_seq ?_
    refine wpC_cut (fun ρ => ρ 3 = (Value.int .i64 0) ∧ ρ 6 = (Sl.v p0) ∧ ρ 7 = (Value.int .i64 (p0.len : Int)) ∧ ρ 8 = (Value.int .i64 l9) ∧ True) ⟨e3, e6, e7, e8, trivial⟩ ?_
    rintro ρ ⟨e3, e6, e7, e8, -⟩
    refine wpC_region ?_
    obtain ⟨q11, z11, r11, h⟩ := h
    generalize hp11 : z11.add ((l9 : Int).toNat * 1) = p11 at h
    refine rv (Value.pointer (some p11)) w1 rfl rfl rfl ((x_indexAddr (s := p0) rfl e6 e8 ES_39 q11 r11).trans (by rw [hp11])) ?_
    obtain ⟨x12, q12, h⟩ := h
    refine rv (Value.int .i64 x12) w1 rfl rfl rfl (x_load1 rfl rfl SH_3 q12) ?_
    refine rv (Value.int .i64 x12) w1 rfl rfl rfl (x_assign rfl rfl) ?_
    refine wpR_nil ?_
    refine wpC_seq ?_
    refine wpC_cut (fun ρ => ρ 3 = (Value.int .i64 0) ∧ ρ 5 = (Value.int .i64 x12) ∧ ρ 6 = (Sl.v p0) ∧ ρ 7 = (Value.int .i64 (p0.len : Int)) ∧ ρ 8 = (Value.int .i64 l9) ∧ True) ⟨e3, rfl, e6, e7, e8, trivial⟩ ?_
    rintro ρ ⟨e3, e5, e6, e7, e8, -⟩
    refine wpC_region ?_
    refine rv (Value.int .i64 x12) w1 rfl rfl rfl (x_move rfl e5) ?_
    refine rv (Value.int .i64 0) w1 rfl rfl rfl (x_move rfl e3) ?_
    refine rv (Value.bool (!decide (x12 = 0))) w1 rfl rfl rfl (x_neq rfl rfl rfl) ?_
    refine wpR_nil ?_
    refine wpC_cond (b := !decide (x12 = 0)) rfl (fun hc13 => ?_) (fun hc13 => ?_)
    · replace h := h.1 hc13
      refine wpC_seq ?_
      refine wpC_cut (fun ρ => ρ 5 = (Value.int .i64 x12) ∧ True) ⟨e5, trivial⟩ ?_
      rintro ρ ⟨e5, -⟩
      refine wpC_region ?_
      refine rv (Value.int .i64 x12) w1 rfl rfl rfl (x_move rfl e5) ?_
      refine rv (Value.int .i64 x12) w1 rfl rfl rfl (x_assign rfl rfl) ?_
      refine wpR_nil ?_
      refine wpC_ret ?_
      exact ⟨.inl rfl, fun a ha => ⟨_, results_rep1 rfl ha rfl, x12, rfl, h⟩⟩
    · replace h := h.2 hc13
      refine wpC_skip ?_
      refine wpC_cut (fun ρ => ρ 3 = (Value.int .i64 0) ∧ ρ 6 = (Sl.v p0) ∧ ρ 7 = (Value.int .i64 (p0.len : Int)) ∧ ρ 8 = (Value.int .i64 l9) ∧ True) ⟨e3, e6, e7, e8, trivial⟩ ?_
      rintro ρ ⟨e3, e6, e7, e8, -⟩
      refine wpC_region ?_
      refine rv (Value.int .i64 (IntKind.i64.wrap (l9 + 1))) w1 rfl rfl rfl (x_add rfl e8 rfl) ?_
      refine rv (Value.int .i64 (IntKind.i64.wrap (l9 + 1))) w1 rfl rfl rfl (x_move rfl rfl) ?_
      refine wpR_nil ?_
      exact ⟨IntKind.i64.wrap (l9 + 1), ⟨rfl, e3, e6, e7, trivial⟩, h⟩
  · replace h := h.2 hc10
    refine wpC_exit ?_
    refine wpC_seq ?_
    refine wpC_cut (fun ρ => ρ 3 = (Value.int .i64 0) ∧ True) ⟨e3, trivial⟩ ?_
    rintro ρ ⟨e3, -⟩
    refine wpC_region ?_
    refine rv (Value.int .i64 0) w1 rfl rfl rfl (x_move rfl e3) ?_
    refine rv (Value.int .i64 0) w1 rfl rfl rfl (x_assign rfl rfl) ?_
    refine wpR_nil ?_
    refine wpC_ret ?_
    exact ⟨.inl rfl, fun a ha => ⟨_, results_rep1 rfl ha rfl, 0, rfl, h⟩⟩

/-- cmp.Compare[int] -/
def F51 (p0 : Int) (p1 : Int) (w0 : World) (K : Int → World → Prop) : Prop :=
  callC Tryz.prog 76 #[(Value.int .i64 p0)] (fun (r : Bool) => (Value.bool r)) w0 fun r9 w1 =>
  callC Tryz.prog 76 #[(Value.int .i64 p1)] (fun (r : Bool) => (Value.bool r)) w1 fun r10 w2 =>
  cnd (r9)
    (
    cnd (r10)
      (
      K 0 w2
      )
      (
      K (-1) w2
      )
    )
    (
    cnd (r10)
      (
      K 1 w2
      )
      (
      cnd (decide (p0 < p1))
        (
        K (-1) w2
        )
        (
        cnd (decide (p1 < p0))
          (
          K 1 w2
          )
          (
          K 0 w2
          )
        )
      )
    )
set_option maxRecDepth 100000 in
theorem D51 (p0 : Int) (p1 : Int) (w0 : World) (K : Int → World → Prop) (h : F51 p0 p1 w0 K) : callC Tryz.prog 51 #[(Value.int .i64 p0), (Value.int .i64 p1)] (fun (r : Int) => (Value.int .i64 r)) w0 K := by
  unfold F51 at h
  refine calls_of_wpC Tryz.func51 rfl 20 rfl (by simp) ?_
  intro ρ hρ
  have e0 : ρ 0 = (Value.int .i64 p0) := hρ 0
  have e1 : ρ 1 = (Value.int .i64 p1) := hρ 1
  clear hρ
  refine wpC_seq ?_
  refine wpC_region ?_
  refine rv (Value.int .i64 0) w0 rfl rfl rfl (x_assign rfl rfl) ?_
  refine wpR_nil ?_
  refine wpC_seq ?_
  refine wpC_cut (fun ρ => ρ 0 = (Value.int .i64 p0) ∧ ρ 1 = (Value.int .i64 p1) ∧ True) ⟨e0, e1, trivial⟩ ?_
  rintro ρ ⟨e0, e1, -⟩
  refine wpC_region ?_
  refine rv (Value.int .i64 p0) w0 rfl rfl rfl (x_move rfl e0) ?_
  refine wpR_enter rfl rfl rfl (x_call (vs := [(Value.int .i64 p0)]) rfl rfl (mapl_cons rfl mapl_nil) Tryz.func76 NN_76 NB_76) (Calls.mono h ?_)
  rintro _ w1 ⟨r9, rfl, h⟩
  refine ⟨_, rfl, ?_⟩
  refine rv (Value.bool r9) w1 rfl rfl rfl (x_assign rfl rfl) ?_
  refine wpR_nil ?_
  refine wpC_seq ?_
  refine wpC_cut (fun ρ => ρ 0 = (Value.int .i64 p0) ∧ ρ 1 = (Value.int .i64 p1) ∧ ρ 5 = (Value.bool r9) ∧ True) ⟨e0, e1, rfl, trivial⟩ ?_
  rintro ρ ⟨e0, e1, e5, -⟩
  refine wpC_region ?_
  refine rv (Value.int .i64 p1) w1 rfl rfl rfl (x_move rfl e1) ?_
  refine wpR_enter rfl rfl rfl (x_call (vs := [(Value.int .i64 p1)]) rfl rfl (mapl_cons rfl mapl_nil) Tryz.func76 NN_76 NB_76) (Calls.mono h ?_)
  rintro _ w2 ⟨r10, rfl, h⟩
  refine ⟨_, rfl, ?_⟩
  refine rv (Value.bool r10) w2 rfl rfl rfl (x_assign rfl rfl) ?_
  refine wpR_nil ?_
  refine wpC_seq ?_
  refine wpC_seq ?_
  refine wpC_cut (fun ρ => ρ 0 = (Value.int .i64 p0) ∧ ρ 1 = (Value.int .i64 p1) ∧ ρ 5 = (Value.bool r9) ∧ ρ 6 = (Value.bool r10) ∧ True) ⟨e0, e1, e5, rfl, trivial⟩ ?_
  rintro ρ ⟨e0, e1, e5, e6, -⟩
  refine wpC_region ?_
  refine rv (Value.bool r9) w2 rfl rfl rfl (x_move rfl e5) ?_
  refine wpR_nil ?_
  refine wpC_cond (b := r9) rfl (fun hc11 => ?_) (fun hc11 => ?_)
  · replace h := h.1 hc11
    refine wpC_seq ?_
    refine wpC_seq ?_
    refine wpC_cut (fun ρ => ρ 6 = (Value.bool r10) ∧ True) ⟨e6, trivial⟩ ?_
    rintro ρ ⟨e6, -⟩
    refine wpC_region ?_
    refine rv (Value.bool r10) w2 rfl rfl rfl (x_move rfl e6) ?_
    refine wpR_nil ?_
    refine wpC_cond (b := r10) rfl (fun hc12 => ?_) (fun hc12 => ?_)
    · replace h := h.1 hc12
      refine wpC_seq ?_
      refine wpC_cut (fun ρ => True) trivial ?_
      rintro ρ -
      refine wpC_region ?_
      refine rv (Value.int .i64 0) w2 rfl rfl rfl (x_assign rfl rfl) ?_
      refine wpR_nil ?_
      refine wpC_ret ?_
      exact ⟨.inl rfl, fun a ha => ⟨_, results_rep1 rfl ha rfl, 0, rfl, h⟩⟩
    · replace h := h.2 hc12
      refine wpC_skip ?_
      refine wpC_seq ?_
      refine wpC_cut (fun ρ => True) trivial ?_
      rintro ρ -
      refine wpC_region ?_
      refine rv (Value.int .i64 (-1)) w2 rfl rfl rfl (x_assign rfl rfl) ?_
      refine wpR_nil ?_
      refine wpC_ret ?_
      exact ⟨.inl rfl, fun a ha => ⟨_, results_rep1 rfl ha rfl, (-1), rfl, h⟩⟩
  · replace h := h.2 hc11
    refine wpC_skip ?_
    refine wpC_seq ?_
    refine wpC_seq ?_
    refine wpC_cut (fun ρ => ρ 0 = (Value.int .i64 p0) ∧ ρ 1 = (Value.int .i64 p1) ∧ ρ 6 = (Value.bool r10) ∧ True) ⟨e0, e1, e6, trivial⟩ ?_
    rintro ρ ⟨e0, e1, e6, -⟩
    refine wpC_region ?_
    refine rv (Value.bool r10) w2 rfl rfl rfl (x_move rfl e6) ?_
    refine wpR_nil ?_
    refine wpC_cond (b := r10) rfl (fun hc13 => ?_) (fun hc13 => ?_)
    · replace h := h.1 hc13
      refine wpC_seq ?_
      refine wpC_cut (fun ρ => True) trivial ?_
      rintro ρ -
      refine wpC_region ?_
      refine rv (Value.int .i64 1) w2 rfl rfl rfl (x_assign rfl rfl) ?_
      refine wpR_nil ?_
      refine wpC_ret ?_
      exact ⟨.inl rfl, fun a ha => ⟨_, results_rep1 rfl ha rfl, 1, rfl, h⟩⟩
    · replace h := h.2 hc13
      refine wpC_skip ?_
      refine wpC_seq ?_
      refine wpC_seq ?_
      refine wpC_cut (fun ρ => ρ 0 = (Value.int .i64 p0) ∧ ρ 1 = (Value.int .i64 p1) ∧ True) ⟨e0, e1, trivial⟩ ?_
      rintro ρ ⟨e0, e1, -⟩
      refine wpC_region ?_
      refine rv (Value.int .i64 p0) w2 rfl rfl rfl (x_move rfl e0) ?_
      refine rv (Value.int .i64 p1) w2 rfl rfl rfl (x_move rfl e1) ?_
      refine rv (Value.bool (decide (p0 < p1))) w2 rfl rfl rfl (x_lss rfl rfl rfl) ?_
      refine wpR_nil ?_
      refine wpC_cond (b := decide (p0 < p1)) rfl (fun hc14 => ?_) (fun hc14 => ?_)
      · replace h := h.1 hc14
        refine wpC_seq ?_
        refine wpC_cut (fun ρ => True) trivial ?_
        rintro ρ -
        refine wpC_region ?_
        refine rv (Value.int .i64 (-1)) w2 rfl rfl rfl (x_assign rfl rfl) ?_
        refine wpR_nil ?_
        refine wpC_ret ?_
        exact ⟨.inl rfl, fun a ha => ⟨_, results_rep1 rfl ha rfl, (-1), rfl, h⟩⟩
      · replace h := h.2 hc14
        refine wpC_skip ?_
        refine wpC_seq ?_
        refine wpC_seq ?_
        refine wpC_cut (fun ρ => ρ 0 = (Value.int .i64 p0) ∧ ρ 1 = (Value.int .i64 p1) ∧ True) ⟨e0, e1, trivial⟩ ?_
        rintro ρ ⟨e0, e1, -⟩
        refine wpC_region ?_
        refine rv (Value.int .i64 p0) w2 rfl rfl rfl (x_move rfl e0) ?_
        refine rv (Value.int .i64 p1) w2 rfl rfl rfl (x_move rfl e1) ?_
        refine rv (Value.bool (decide (p1 < p0))) w2 rfl rfl rfl (x_gtr rfl rfl rfl) ?_
        refine wpR_nil ?_
        refine wpC_cond (b := decide (p1 < p0)) rfl (fun hc15 => ?_) (fun hc15 => ?_)
        · replace h := h.1 hc15
          refine wpC_seq ?_
          refine wpC_cut (fun ρ => True) trivial ?_
          rintro ρ -
          refine wpC_region ?_
          refine rv (Value.int .i64 1) w2 rfl rfl rfl (x_assign rfl rfl) ?_
          refine wpR_nil ?_
          refine wpC_ret ?_
          exact ⟨.inl rfl, fun a ha => ⟨_, results_rep1 rfl ha rfl, 1, rfl, h⟩⟩
        · replace h := h.2 hc15
          refine wpC_skip ?_
          refine wpC_seq ?_
          refine wpC_cut (fun ρ => True) trivial ?_
          rintro ρ -
          refine wpC_region ?_
          refine rv (Value.int .i64 0) w2 rfl rfl rfl (x_assign rfl rfl) ?_
          refine wpR_nil ?_
          refine wpC_ret ?_
          exact ⟨.inl rfl, fun a ha => ⟨_, results_rep1 rfl ha rfl, 0, rfl, h⟩⟩

/-- slices.DeleteFunc[[]api.Waiting,api.Waiting] -/
def F52 (p0 : Sl) (p1 : Value) (w0 : World) (K : Sl → World → Prop) : Prop :=
  callC Tryz.prog 77 #[(Sl.v p0), p1] (fun (r : Int) => (Value.int .i64 r)) w0 fun r9 w1 =>
  cnd (decide (r9 = (-1)))
    (
    K p0 w1
    )
    (
    lp (fun (next11 : (Int × Int) → World → Prop) l11 w2 =>
      cnd (decide (l11.2 < (p0.len : Int)))
        (
        jn (fun (J13 : Int → World → Prop) =>
          ix p0 l11.2 4 fun p15 =>
          ld (Value.int .i64) (p15.add 0) w2 fun x16 =>
          ld (Value.int .i64) (p15.add 1) w2 fun x17 =>
          ld (Value.int .i64) (p15.add 2) w2 fun x18 =>
          ld (Value.int .i64) (p15.add 3) w2 fun x19 =>
          nw 70 #[(Value.int .i64 0), (Value.int .i64 0), (Value.int .i64 0), (Value.int .i64 0)] w2 fun b20 w4 =>
          st (Addr.mk b20 0 none) [(Value.int .i64 x16), (Value.int .i64 x17), (Value.int .i64 x18), (Value.int .i64 x19)] w4 fun w5 =>
          ld (Value.int .i64) ((Addr.mk b20 0 none).add 0) w5 fun x22 =>
          ld (Value.int .i64) ((Addr.mk b20 0 none).add 1) w5 fun x23 =>
          ld (Value.int .i64) ((Addr.mk b20 0 none).add 2) w5 fun x24 =>
          ld (Value.int .i64) ((Addr.mk b20 0 none).add 3) w5 fun x25 =>
          cv Tryz.prog p1 [(Value.agg #[(Value.int .i64 x22), (Value.int .i64 x23), (Value.int .i64 x24), (Value.int .i64 x25)])] (fun (r : Bool) => (Value.bool r)) w5 fun r26 w6 =>
          cnd (!r26)
            (
            ld (Value.int .i64) ((Addr.mk b20 0 none).add 0) w6 fun x28 =>
            ld (Value.int .i64) ((Addr.mk b20 0 none).add 1) w6 fun x29 =>
            ld (Value.int .i64) ((Addr.mk b20 0 none).add 2) w6 fun x30 =>
            ld (Value.int .i64) ((Addr.mk b20 0 none).add 3) w6 fun x31 =>
            ix p0 l11.1 4 fun p32 =>
            st p32 [(Value.int .i64 x28), (Value.int .i64 x29), (Value.int .i64 x30), (Value.int .i64 x31)] w6 fun w7 =>
            J13 (IntKind.i64.wrap (l11.1 + 1)) w7
            )
            (
            J13 l11.1 w6
            )
        )
        fun l14 w3 =>
        next11 (l14, IntKind.i64.wrap (l11.2 + 1)) w3
        )
        (
        rn Tryz.prog (Instr.sliceAt 66 (Sl.v p0) (some (Value.int .i64 l11.1)) none none) (fun (r : Sl) => (Sl.v r)) w2 fun r34 w8 =>
        rn Tryz.prog (Builtin.clear_ #[66] 0 #[(Sl.v r34)]) (fun _ : Unit => Value.tuple #[]) w8 fun _r35 w9 =>
        rn Tryz.prog (Instr.sliceAt 66 (Sl.v p0) none (some (Value.int .i64 l11.1)) none) (fun (r : Sl) => (Sl.v r)) w9 fun r36 w10 =>
        K r36 w10
        )
    ) (r9, IntKind.i64.wrap (r9 + 1)) w1
    )
set_option maxRecDepth 100000 in
theorem D52 (p0 : Sl) (p1 : Value) (w0 : World) (K : Sl → World → Prop) (h : F52 p0 p1 w0 K) : callC Tryz.prog 52 #[(Sl.v p0), p1] (fun (r : Sl) => (Sl.v r)) w0 K := by
  unfold F52 at h
  refine calls_of_wpC Tryz.func52 rfl 42 rfl (by simp) ?_
  intro ρ hρ
  have e0 : ρ 0 = (Sl.v p0) := hρ 0
  have e1 : ρ 1 = p1 := hρ 1
  clear hρ
  refine wpC_seq ?_
  refine wpC_region ?_
  refine rv (Sl.v Sl.nil) w0 rfl rfl rfl (x_assign rfl rfl) ?_
  refine wpR_nil ?_
  refine wpC_seq ?_
  refine wpC_cut (fun ρ => ρ 0 = (Sl.v p0) ∧ ρ 1 = p1 ∧ True) ⟨e0, e1, trivial⟩ ?_
  rintro ρ ⟨e0, e1, -⟩
  refine wpC_region ?_
  refine rv (Sl.v p0) w0 rfl rfl rfl (x_move rfl e0) ?_
  refine rv p1 w0 rfl rfl rfl (x_move rfl e1) ?_
  refine wpR_enter rfl rfl rfl (x_call (vs := [(Sl.v p0), p1]) rfl rfl (mapl_cons rfl (mapl_cons rfl mapl_nil)) Tryz.func77 NN_77 NB_77) (Calls.mono h ?_)
  rintro _ w1 ⟨r9, rfl, h⟩
  refine ⟨_, rfl, ?_⟩
  refine rv (Value.int .i64 r9) w1 rfl rfl rfl (x_assign rfl rfl) ?_
  refine wpR_nil ?_
  refine wpC_seq ?_
  refine wpC_seq ?_
  refine wpC_cut (fun ρ => ρ 0 = (Sl.v p0) ∧ ρ 1 = p1 ∧ ρ 5 = (Value.int .i64 r9) ∧ True) ⟨e0, e1, rfl, trivial⟩ ?_
  rintro ρ ⟨e0, e1, e5, -⟩
  refine wpC_region ?_
  refine rv (Value.int .i64 r9) w1 rfl rfl rfl (x_move rfl e5) ?_
  refine rv (Value.bool (decide (r9 = (-1)))) w1 rfl rfl rfl (x_eql rfl rfl rfl) ?_
  refine wpR_nil ?_
  refine wpC_cond (b := decide (r9 = (-1))) rfl (fun hc10 => ?_) (fun hc10 => ?_)
  · replace h := h.1 hc10
    refine wpC_seq ?_
    refine wpC_cut (fun ρ => ρ 0 = (Sl.v p0) ∧ True) ⟨e0, trivial⟩ ?_
    rintro ρ ⟨e0, -⟩
    refine wpC_region ?_
    refine rv (Sl.v p0) w1 rfl rfl rfl (x_move rfl e0) ?_
    refine rv (Sl.v p0) w1 rfl rfl rfl (x_assign rfl rfl) ?_
    refine wpR_nil ?_
    refine wpC_ret ?_
    exact ⟨.inl rfl, fun a ha => ⟨_, results_rep1 rfl ha rfl, p0, rfl, h⟩⟩
  · replace h := h.2 hc10
    refine wpC_skip ?_
    refine wpC_seq ?_
    refine wpC_seq ?_
    refine wpC_cut (fun ρ => ρ 0 = (Sl.v p0) ∧ ρ 1 = p1 ∧ ρ 5 = (Value.int .i64 r9) ∧ True) ⟨e0, e1, e5, trivial⟩ ?_
    rintro ρ ⟨e0, e1, e5, -⟩
    refine wpC_region ?_
    refine rv (Value.int .i64 r9) w1 rfl rfl rfl (x_move rfl e5) ?_
    refine rv (Value.int .i64 (IntKind.i64.wrap (r9 + 1))) w1 rfl rfl rfl (x_add rfl rfl rfl) ?_
    refine rv (Value.int .i64 (IntKind.i64.wrap (r9 + 1))) w1 rfl rfl rfl (x_assign rfl rfl) ?_
    refine wpR_nil ?_
    refine wpC_block ?_
    obtain ⟨I11, μ11, hI11, hr11⟩ := h
    refine wpC_loop (fun (x : Int × Int) ρ => ρ 5 = (Value.int .i64 x.1) ∧ ρ 6 = (Value.int .i64 x.2) ∧ ρ 0 = (Sl.v p0) ∧ ρ 1 = p1 ∧ True) I11 μ11 (r9, IntKind.i64.wrap (r9 + 1)) ⟨e5, rfl, e0, e1, trivial⟩ hI11 ?_
    rintro l11 ρ w2 ⟨e5, e6, e0, e1, -⟩ h
    replace h := hr11 l11 w2 h
    clear hr11 hI11
    refine wpC_seq ?_
    refine wpC_seq ?_
    refine wpC_region ?_
    refine rv (Value.int .i64 l11.2) w2 rfl rfl rfl (x_move rfl e6) ?_
    refine rv (Sl.v p0) w2 rfl rfl rfl (x_move rfl e0) ?_
    refine rv (Value.int .i64 (p0.len : Int)) w2 rfl rfl rfl (x_lenS (s := p0) rfl rfl isSliceT_66) ?_
    refine rv (Value.bool (decide (l11.2 < (p0.len : Int)))) w2 rfl rfl rfl (x_lss rfl rfl rfl) ?_
    refine wpR_nil ?_
    refine wpC_cond (b := decide (l11.2 < (p0.len : Int))) rfl (fun hc12 => ?_) (fun hc12 => ?_)
    · replace h := h.1 hc12
      refine wpC_skip ?_
      obtain ⟨J13, h, hk⟩ := h
      refine wpC_seqJ (fun (x : Int) ρ => ρ 5 = (Value.int .i64 x) ∧ ρ 0 = (Sl.v p0) ∧ ρ 1 = p1 ∧ ρ 6 = (Value.int .i64 l11.2) ∧ True) J13 ?_ ?_
      · clear hk
        refine wpC_block ?_
        refine wpC_seq ?_
        refine wpC_cut (fun ρ => ρ 0 = (Sl.v p0) ∧ ρ 1 = p1 ∧ ρ 5 = (Value.int .i64 l11.1) ∧ ρ 6 = (Value.int .i64 l11.2) ∧ True) ⟨e0, e1, e5, e6, trivial⟩ ?_
        rintro ρ ⟨e0, e1, e5, e6, -⟩
        refine wpC_region ?_
        refine rv (Sl.v p0) w2 rfl rfl rfl (x_move rfl e0) ?_
        refine rv (Value.int .i64 l11.2) w2 rfl rfl rfl (x_move rfl e6) ?_
        obtain ⟨q15, z15, r15, h⟩ := h
        generalize hp15 : z15.add ((l11.2 : Int).toNat * 4) = p15 at h
        refine rv (Value.pointer (some p15)) w2 rfl rfl rfl ((x_indexAddr (s := p0) rfl rfl rfl ES_66 q15 r15).trans (by rw [hp15])) ?_
        obtain ⟨x16, q16, x17, q17, x18, q18, x19, q19, h⟩ := h
        refine rv (Value.agg #[(Value.int .i64 x16), (Value.int .i64 x17), (Value.int .i64 x18), (Value.int .i64 x19)]) w2 rfl rfl rfl (x_loadN [(Value.int .i64 x16), (Value.int .i64 x17), (Value.int .i64 x18), (Value.int .i64 x19)] rfl rfl SH_70 (CellsAt.out (CellsAt.cons q16 (CellsAt.cons q17 (CellsAt.cons q18 (CellsAt.cons q19 CellsAt.nil)))))) ?_
        obtain ⟨b20, hb20⟩ : ∃ u, u = w2.heap.size := ⟨_, rfl⟩
        obtain ⟨w4, hw20⟩ : ∃ u, u = w2.alloc (.cells #[(Value.int .i64 0), (Value.int .i64 0), (Value.int .i64 0), (Value.int .i64 0)] 70) := ⟨_, rfl⟩
        replace h := h b20 w4 hb20 hw20
        refine rv (Value.pointer (some (Addr.mk b20 0 none))) w4 rfl rfl rfl ((x_alloc rfl ZV_70).trans (by rw [hb20, hw20]; rfl)) ?_
        obtain ⟨q21, h⟩ := h
        obtain ⟨w5, hw21⟩ : ∃ u, u = setAll w4 (Addr.mk b20 0 none) [(Value.int .i64 x16), (Value.int .i64 x17), (Value.int .i64 x18), (Value.int .i64 x19)] 0 := ⟨_, rfl⟩
        replace h := h w5 hw21
        refine wpR_skp (w' := w5) rfl rfl ((x_store (v := (Value.agg #[(Value.int .i64 x16), (Value.int .i64 x17), (Value.int .i64 x18), (Value.int .i64 x19)])) rfl rfl rfl SZ_70 (ones (by rfl)) q21).trans (by rw [hw21]; rfl)) ?_
        refine wpR_nil ?_
        refine wpC_seq ?_
        refine wpC_cut (fun ρ => ρ 0 = (Sl.v p0) ∧ ρ 1 = p1 ∧ ρ 5 = (Value.int .i64 l11.1) ∧ ρ 6 = (Value.int .i64 l11.2) ∧ ρ 7 = (Value.pointer (some (Addr.mk b20 0 none))) ∧ True) ⟨e0, e1, e5, e6, rfl, trivial⟩ ?_
        rintro ρ ⟨e0, e1, e5, e6, e7, -⟩
        refine wpC_region ?_
        refine rv p1 w5 rfl rfl rfl (x_move rfl e1) ?_
        obtain ⟨x22, q22, x23, q23, x24, q24, x25, q25, h⟩ := h
        refine rv (Value.agg #[(Value.int .i64 x22), (Value.int .i64 x23), (Value.int .i64 x24), (Value.int .i64 x25)]) w5 rfl rfl rfl (x_loadN [(Value.int .i64 x22), (Value.int .i64 x23), (Value.int .i64 x24), (Value.int .i64 x25)] rfl e7 SH_70 (CellsAt.out (CellsAt.cons q22 (CellsAt.cons q23 (CellsAt.cons q24 (CellsAt.cons q25 CellsAt.nil)))))) ?_
        obtain ⟨f26, fi26, ca26, fn26, qv26, qf26, qn26, qb26, h⟩ := h
        refine wpR_enter rfl rfl rfl (x_callv (vs := [(Value.agg #[(Value.int .i64 x22), (Value.int .i64 x23), (Value.int .i64 x24), (Value.int .i64 x25)])]) rfl ((show _ = p1 from rfl).trans qv26) (mapl_cons rfl mapl_nil) qf26 qn26 qb26) (Calls.mono h ?_)
        rintro _ w6 ⟨r26, rfl, h⟩
        refine ⟨_, rfl, ?_⟩
        refine rv (Value.bool (!r26)) w6 rfl rfl rfl (x_not rfl rfl) ?_
        refine wpR_nil ?_
        refine wpC_cond (b := !r26) rfl (fun hc27 => ?_) (fun hc27 => ?_)
        · replace h := h.1 hc27
          refine wpC_seq ?_
          refine wpC_cut (fun ρ => ρ 0 = (Sl.v p0) ∧ ρ 1 = p1 ∧ ρ 5 = (Value.int .i64 l11.1) ∧ ρ 6 = (Value.int .i64 l11.2) ∧ ρ 7 = (Value.pointer (some (Addr.mk b20 0 none))) ∧ True) ⟨e0, e1, e5, e6, e7, trivial⟩ ?_
          rintro ρ ⟨e0, e1, e5, e6, e7, -⟩
          refine wpC_region ?_
          refine rv (Sl.v p0) w6 rfl rfl rfl (x_move rfl e0) ?_
          refine rv (Value.int .i64 l11.1) w6 rfl rfl rfl (x_move rfl e5) ?_
          obtain ⟨x28, q28, x29, q29, x30, q30, x31, q31, h⟩ := h
          refine rv (Value.agg #[(Value.int .i64 x28), (Value.int .i64 x29), (Value.int .i64 x30), (Value.int .i64 x31)]) w6 rfl rfl rfl (x_loadN [(Value.int .i64 x28), (Value.int .i64 x29), (Value.int .i64 x30), (Value.int .i64 x31)] rfl e7 SH_70 (CellsAt.out (CellsAt.cons q28 (CellsAt.cons q29 (CellsAt.cons q30 (CellsAt.cons q31 CellsAt.nil)))))) ?_
          obtain ⟨q32, z32, r32, h⟩ := h
          generalize hp32 : z32.add ((l11.1 : Int).toNat * 4) = p32 at h
          refine rv (Value.pointer (some p32)) w6 rfl rfl rfl ((x_indexAddr (s := p0) rfl rfl rfl ES_66 q32 r32).trans (by rw [hp32])) ?_
          obtain ⟨q33, h⟩ := h
          obtain ⟨w7, hw33⟩ : ∃ u, u = setAll w6 p32 [(Value.int .i64 x28), (Value.int .i64 x29), (Value.int .i64 x30), (Value.int .i64 x31)] 0 := ⟨_, rfl⟩
          replace h := h w7 hw33
          refine wpR_skp (w' := w7) rfl rfl ((x_store (v := (Value.agg #[(Value.int .i64 x28), (Value.int .i64 x29), (Value.int .i64 x30), (Value.int .i64 x31)])) rfl rfl rfl SZ_70 (ones (by rfl)) q33).trans (by rw [hw33]; rfl)) ?_
          refine wpR_nil ?_
          refine wpC_cut (fun ρ => ρ 0 = (Sl.v p0) ∧ ρ 1 = p1 ∧ ρ 5 = (Value.int .i64 l11.1) ∧ ρ 6 = (Value.int .i64 l11.2) ∧ True) ⟨e0, e1, e5, e6, trivial⟩ ?_
          rintro ρ ⟨e0, e1, e5, e6, -⟩
          refine wpC_region ?_
          refine rv (Value.int .i64 l11.1) w7 rfl rfl rfl (x_move rfl e5) ?_
          refine rv (Value.int .i64 (IntKind.i64.wrap (l11.1 + 1))) w7 rfl rfl rfl (x_add rfl rfl rfl) ?_
          refine rv (Value.int .i64 (IntKind.i64.wrap (l11.1 + 1))) w7 rfl rfl rfl (x_assign rfl rfl) ?_
          refine wpR_nil ?_
          exact ⟨IntKind.i64.wrap (l11.1 + 1), ⟨rfl, e0, e1, e6, trivial⟩, h⟩
        · replace h := h.2 hc27
          refine wpC_skip ?_
          exact ⟨l11.1, ⟨e5, e0, e1, e6, trivial⟩, h⟩
      clear h
      rintro l14 ρ w3 ⟨e5, e0, e1, e6, -⟩ h
      replace h := hk l14 w3 h
      clear hk
      refine wpC_region ?_
      refine rv (Value.int .i64 l11.2) w3 rfl rfl rfl (x_move rfl e6) ?_
      refine rv (Value.int .i64 (IntKind.i64.wrap (l11.2 + 1))) w3 rfl rfl rfl (x_add rfl rfl rfl) ?_
      refine rv (Value.int .i64 (IntKind.i64.wrap (l11.2 + 1))) w3 rfl rfl rfl (x_assign rfl rfl) ?_
      refine wpR_nil ?_
      exact ⟨(l14, IntKind.i64.wrap (l11.2 + 1)), ⟨e5, rfl, e0, e1, trivial⟩, h⟩
    · replace h := h.2 hc12
      refine wpC_exit ?_
      refine wpC_seq ?_
      refine wpC_cut (fun ρ => ρ 0 = (Sl.v p0) ∧ ρ 5 = (Value.int .i64 l11.1) ∧ True) ⟨e0, e5, trivial⟩ ?_
      rintro ρ ⟨e0, e5, -⟩
      refine wpC_region ?_
      refine rv (Sl.v p0) w2 rfl rfl rfl (x_move rfl e0) ?_
      refine rv (Value.int .i64 l11.1) w2 rfl rfl rfl (x_move rfl e5) ?_
      obtain ⟨r34, w8, q34, h⟩ := h
      refine rv (Sl.v r34) w8 rfl rfl rfl (x_sliceAt rfl rfl (congrArg some rfl) rfl rfl q34) ?_
      obtain ⟨r35, w9, q35, h⟩ := h
      refine wpR_val0 (v := (Value.tuple #[])) (w' := w9) rfl rfl (x_clear rfl rfl rfl q35) ?_
      refine wpR_nil ?_
      refine wpC_seq ?_
      refine wpC_cut (fun ρ => ρ 0 = (Sl.v p0) ∧ ρ 5 = (Value.int .i64 l11.1) ∧ True) ⟨e0, e5, trivial⟩ ?_
      rintro ρ ⟨e0, e5, -⟩
      refine wpC_region ?_
      refine rv (Sl.v p0) w9 rfl rfl rfl (x_move rfl e0) ?_
      refine rv (Value.int .i64 l11.1) w9 rfl rfl rfl (x_move rfl e5) ?_
      obtain ⟨r36, w10, q36, h⟩ := h
      refine rv (Sl.v r36) w10 rfl rfl rfl (x_sliceAt rfl rfl rfl (congrArg some rfl) rfl q36) ?_
      refine rv (Sl.v r36) w10 rfl rfl rfl (x_assign rfl rfl) ?_
      refine wpR_nil ?_
      refine wpC_ret ?_
      exact ⟨.inl rfl, fun a ha => ⟨_, results_rep1 rfl ha rfl, r36, rfl, h⟩⟩

/-- queue.Step$2 -/
def F53 (p0_0 : Int) (p0_1 : Int) (p0_2 : Int) (p0_3 : Int) (w0 : World) (K : Bool → World → Prop) : Prop :=
  nw 70 #[(Value.int .i64 p0_0), (Value.int .i64 p0_1), (Value.int .i64 p0_2), (Value.int .i64 p0_3)] w0 fun b9 w1 =>
  ld (Value.int .i64) ((Addr.mk b9 0 none).add 2) w1 fun x10 =>
  K (decide (x10 = 0)) w1
set_option maxRecDepth 100000 in
theorem D53 (p0_0 : Int) (p0_1 : Int) (p0_2 : Int) (p0_3 : Int) (w0 : World) (K : Bool → World → Prop) (h : F53 p0_0 p0_1 p0_2 p0_3 w0 K) : callC Tryz.prog 53 #[(Value.agg #[(Value.int .i64 p0_0), (Value.int .i64 p0_1), (Value.int .i64 p0_2), (Value.int .i64 p0_3)])] (fun (r : Bool) => (Value.bool r)) w0 K := by
  unfold F53 at h
  refine calls_of_wpC Tryz.func53 rfl 6 rfl (by simp) ?_
  intro ρ hρ
  have e0 : ρ 0 = (Value.agg #[(Value.int .i64 p0_0), (Value.int .i64 p0_1), (Value.int .i64 p0_2), (Value.int .i64 p0_3)]) := hρ 0
  clear hρ
  refine wpC_seq ?_
  refine wpC_region ?_
  obtain ⟨b9, hb9⟩ : ∃ u, u = w0.heap.size := ⟨_, rfl⟩
  obtain ⟨w1, hw9⟩ : ∃ u, u = w0.alloc (.cells #[(Value.int .i64 p0_0), (Value.int .i64 p0_1), (Value.int .i64 p0_2), (Value.int .i64 p0_3)] 70) := ⟨_, rfl⟩
  replace h := h b9 w1 hb9 hw9
  refine rv (Value.pointer (some (Addr.mk b9 0 none))) w1 rfl rfl rfl ((x_box (v := (Value.agg #[(Value.int .i64 p0_0), (Value.int .i64 p0_1), (Value.int .i64 p0_2), (Value.int .i64 p0_3)])) rfl e0).trans (by rw [hb9, hw9]; rfl)) ?_
  refine rv (Value.bool false) w1 rfl rfl rfl (x_assign rfl rfl) ?_
  refine wpR_nil ?_
  refine wpC_seq ?_
  refine wpC_cut (fun ρ => ρ 1 = (Value.pointer (some (Addr.mk b9 0 none))) ∧ True) ⟨rfl, trivial⟩ ?_
  rintro ρ ⟨e1, -⟩
  refine wpC_region ?_
  refine rv (Value.pointer (some ((Addr.mk b9 0 none).add 2))) w1 rfl rfl rfl (x_fieldAddr rfl e1 FA_70_2) ?_
  obtain ⟨x10, q10, h⟩ := h
  refine rv (Value.int .i64 x10) w1 rfl rfl rfl (x_load1 rfl rfl SH_3 q10) ?_
  refine rv (Value.bool (decide (x10 = 0))) w1 rfl rfl rfl (x_eql rfl rfl rfl) ?_
  refine rv (Value.bool (decide (x10 = 0))) w1 rfl rfl rfl (x_assign rfl rfl) ?_
  refine wpR_nil ?_
  refine wpC_ret ?_
  exact ⟨.inl rfl, fun a ha => ⟨_, results_rep1 rfl ha rfl, decide (x10 = 0), rfl, h⟩⟩

/-- slices.ContainsFunc[[]api.Bridge,api.Bridge] -/
def F58 (p0 : Sl) (p1 : Value) (w0 : World) (K : Bool → World → Prop) : Prop :=
  callC Tryz.prog 79 #[(Sl.v p0), p1] (fun (r : Int) => (Value.int .i64 r)) w0 fun r9 w1 =>
  K (decide (0 ≤ r9)) w1
set_option maxRecDepth 100000 in
theorem D58 (p0 : Sl) (p1 : Value) (w0 : World) (K : Bool → World → Prop) (h : F58 p0 p1 w0 K) : callC Tryz.prog 58 #[(Sl.v p0), p1] (fun (r : Bool) => (Value.bool r)) w0 K := by
  unfold F58 at h
  refine calls_of_wpC Tryz.func58 rfl 9 rfl (by simp) ?_
  intro ρ hρ
  have e0 : ρ 0 = (Sl.v p0) := hρ 0
  have e1 : ρ 1 = p1 := hρ 1
  clear hρ
  refine wpC_seq ?_
  refine wpC_region ?_
  refine rv (Value.bool false) w0 rfl rfl rfl (x_assign rfl rfl) ?_
  refine wpR_nil ?_
  refine wpC_seq ?_
  refine wpC_cut (fun ρ => ρ 0 = (Sl.v p0) ∧ ρ 1 = p1 ∧ True) ⟨e0, e1, trivial⟩ ?_
  rintro ρ ⟨e0, e1, -⟩
  refine wpC_region ?_
  refine rv (Sl.v p0) w0 rfl rfl rfl (x_move rfl e0) ?_
  refine rv p1 w0 rfl rfl rfl (x_move rfl e1) ?_
  refine wpR_enter rfl rfl rfl (x_call (vs := [(Sl.v p0), p1]) rfl rfl (mapl_cons rfl (mapl_cons rfl mapl_nil)) Tryz.func79 NN_79 NB_79) (Calls.mono h ?_)
  rintro _ w1 ⟨r9, rfl, h⟩
  refine ⟨_, rfl, ?_⟩
  refine rv (Value.bool (decide (0 ≤ r9))) w1 rfl rfl rfl (x_geq rfl rfl rfl) ?_
  refine rv (Value.bool (decide (0 ≤ r9))) w1 rfl rfl rfl (x_assign rfl rfl) ?_
  refine wpR_nil ?_
  refine wpC_ret ?_
  exact ⟨.inl rfl, fun a ha => ⟨_, results_rep1 rfl ha rfl, decide (0 ≤ r9), rfl, h⟩⟩


end Go.Proofs.YtgbhghoppjfofaaGreat
