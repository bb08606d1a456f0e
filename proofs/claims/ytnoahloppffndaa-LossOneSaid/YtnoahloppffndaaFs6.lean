import Derived.Test.YtnoahloppffndaaRows
import Derived.Test.YtnoahloppffndaaFs1
import Derived.Test.YtnoahloppffndaaDecRaw
namespace Go.Proofs.Ytnoahloppffndaa
open Go.Dec
set_option maxHeartbeats 400000
set_option maxRecDepth 100000

/-- profile.AtMost -/
def F23 (p0_0 : ByteArray) (p0_1 : Int) (p0_2 : Int) (p0_3 : Int) (p0_4 : Bool) (p0_5 : Int) (p0_6 : Bool) (p0_7 : Bool) (p0_8 : Int) (p0_9 : Int) (p0_10 : Int) (p0_11 : Int) (p0_12 : Sl) (p0_13 : Int) (p0_14 : Int) (p0_15 : Int) (p0_16 : Int) (p0_17 : Bool) (p0_18 : Int) (p0_19 : Int) (p0_20 : Int) (p0_21 : Int) (p1_0 : ByteArray) (p1_1 : Int) (p1_2 : Int) (p1_3 : Int) (p1_4 : Bool) (p1_5 : Int) (p1_6 : Bool) (p1_7 : Bool) (p1_8 : Int) (p1_9 : Int) (p1_10 : Int) (p1_11 : Int) (p1_12 : Sl) (p1_13 : Int) (p1_14 : Int) (p1_15 : Int) (p1_16 : Int) (p1_17 : Bool) (p1_18 : Int) (p1_19 : Int) (p1_20 : Int) (p1_21 : Int) (w0 : World) (K : Bool → World → Prop) : Prop :=
  nw 24 (A23 p0_0 p0_1 p0_2 p0_3 p0_4 p0_5 p0_6 p0_7 p0_8 p0_9 p0_10 p0_11 p0_12 p0_13 p0_14 p0_15 p0_16 p0_17 p0_18 p0_19 p0_20 p0_21) w0 fun b9 w1 =>
  nw 24 (A23 p1_0 p1_1 p1_2 p1_3 p1_4 p1_5 p1_6 p1_7 p1_8 p1_9 p1_10 p1_11 p1_12 p1_13 p1_14 p1_15 p1_16 p1_17 p1_18 p1_19 p1_20 p1_21) w1 fun b10 w2 =>
  ld (Value.int .i64) ((Addr.mk b9 0 none).add 1) w2 fun x11 =>
  ld (Value.int .i64) ((Addr.mk b10 0 none).add 1) w2 fun x12 =>
  jp (fun J13 => cnd (decide (x11 ≤ x12))
    (
    ld (Value.int .i64) ((Addr.mk b9 0 none).add 3) w2 fun x15 =>
    ld (Value.int .i64) ((Addr.mk b10 0 none).add 3) w2 fun x16 =>
    J13 (decide (x15 ≤ x16))
    )
    (
    J13 false
    ))
  fun c17 =>
  jp (fun J18 => cnd (c17)
    (
    ld (Value.int .i64) ((Addr.mk b9 0 none).add 5) w2 fun x20 =>
    ld (Value.int .i64) ((Addr.mk b10 0 none).add 5) w2 fun x21 =>
    J18 (decide (x20 ≤ x21))
    )
    (
    J18 false
    ))
  fun c22 =>
  jp (fun J23 => cnd (c22)
    (
    ld (Value.int .i64) ((Addr.mk b9 0 none).add 8) w2 fun x25 =>
    ld (Value.int .i64) ((Addr.mk b10 0 none).add 8) w2 fun x26 =>
    J23 (decide (x25 ≤ x26))
    )
    (
    J23 false
    ))
  fun c27 =>
  jp (fun J28 => cnd (c27)
    (
    ld (Value.int .i64) ((Addr.mk b9 0 none).add 9) w2 fun x30 =>
    ld (Value.int .i64) ((Addr.mk b10 0 none).add 9) w2 fun x31 =>
    J28 (decide (x30 ≤ x31))
    )
    (
    J28 false
    ))
  fun c32 =>
  jp (fun J33 => cnd (c32)
    (
    ld (Value.int .i64) ((Addr.mk b9 0 none).add 10) w2 fun x35 =>
    ld (Value.int .i64) ((Addr.mk b10 0 none).add 10) w2 fun x36 =>
    J33 (decide (x35 ≤ x36))
    )
    (
    J33 false
    ))
  fun c37 =>
  jp (fun J38 => cnd (c37)
    (
    ld (Value.int .i64) ((Addr.mk b9 0 none).add 11) w2 fun x40 =>
    ld (Value.int .i64) ((Addr.mk b10 0 none).add 11) w2 fun x41 =>
    J38 (decide (x40 ≤ x41))
    )
    (
    J38 false
    ))
  fun c42 =>
  jp (fun J43 => cnd (c42)
    (
    ld (Value.int .i64) ((Addr.mk b9 0 none).add 16) w2 fun x45 =>
    ld (Value.int .i64) ((Addr.mk b10 0 none).add 16) w2 fun x46 =>
    J43 (decide (x45 ≤ x46))
    )
    (
    J43 false
    ))
  fun c47 =>
  ld Value.bool ((Addr.mk b9 0 none).add 4) w2 fun x48 =>
  jp (fun J49 => cnd (!x48)
    (
    J49 true
    )
    (
    ld Value.bool ((Addr.mk b10 0 none).add 4) w2 fun x51 =>
    J49 x51
    ))
  fun c52 =>
  jp (fun J53 => cnd (c52)
    (
    ld Value.bool ((Addr.mk b9 0 none).add 6) w2 fun x55 =>
    jp (fun J56 => cnd (!x55)
      (
      J56 true
      )
      (
      ld Value.bool ((Addr.mk b10 0 none).add 6) w2 fun x58 =>
      J56 x58
      ))
    fun c59 =>
    J53 c59
    )
    (
    J53 false
    ))
  fun c60 =>
  jp (fun J61 => cnd (c60)
    (
    ld Value.bool ((Addr.mk b9 0 none).add 7) w2 fun x63 =>
    jp (fun J64 => cnd (!x63)
      (
      J64 true
      )
      (
      ld Value.bool ((Addr.mk b10 0 none).add 7) w2 fun x66 =>
      J64 x66
      ))
    fun c67 =>
    J61 c67
    )
    (
    J61 false
    ))
  fun c68 =>
  ld (Value.int .i64) ((Addr.mk b9 0 none).add 1) w2 fun x69 =>
  jp (fun J70 => cnd (decide (x69 = 0))
    (
    J70 true
    )
    (
    ld (Value.int .i64) ((Addr.mk b10 0 none).add 2) w2 fun x72 =>
    J70 (decide (x72 = 0))
    ))
  fun c73 =>
  jp (fun J74 => cnd (c73)
    (
    J74 true
    )
    (
    ld (Value.int .i64) ((Addr.mk b9 0 none).add 2) w2 fun x76 =>
    jp (fun J77 => cnd (!decide (x76 = 0))
      (
      ld (Value.int .i64) ((Addr.mk b9 0 none).add 2) w2 fun x79 =>
      ld (Value.int .i64) ((Addr.mk b10 0 none).add 2) w2 fun x80 =>
      J77 (decide (x79 ≤ x80))
      )
      (
      J77 false
      ))
    fun c81 =>
    J74 c81
    ))
  fun c82 =>
  jn (fun J87 => cnd ((c47 && c68) && c82)
    (
    ld Sl.v ((Addr.mk b9 0 none).add 12) w2 fun x89 =>
    callC Try.prog 47 #[(Sl.v x89), (Value.func (.func 46) #[] (List.toArray [(Value.pointer (some (Addr.mk b10 0 none)))]))] (fun (r : Bool) => (Value.bool r)) w2 fun r90 w3 =>
    J87 (!r90) w3
    )
    (
    J87 false w2
    ))
  fun c91 w4 =>
  K c91 w4
set_option maxRecDepth 100000 in
theorem D23 (p0_0 : ByteArray) (p0_1 : Int) (p0_2 : Int) (p0_3 : Int) (p0_4 : Bool) (p0_5 : Int) (p0_6 : Bool) (p0_7 : Bool) (p0_8 : Int) (p0_9 : Int) (p0_10 : Int) (p0_11 : Int) (p0_12 : Sl) (p0_13 : Int) (p0_14 : Int) (p0_15 : Int) (p0_16 : Int) (p0_17 : Bool) (p0_18 : Int) (p0_19 : Int) (p0_20 : Int) (p0_21 : Int) (p1_0 : ByteArray) (p1_1 : Int) (p1_2 : Int) (p1_3 : Int) (p1_4 : Bool) (p1_5 : Int) (p1_6 : Bool) (p1_7 : Bool) (p1_8 : Int) (p1_9 : Int) (p1_10 : Int) (p1_11 : Int) (p1_12 : Sl) (p1_13 : Int) (p1_14 : Int) (p1_15 : Int) (p1_16 : Int) (p1_17 : Bool) (p1_18 : Int) (p1_19 : Int) (p1_20 : Int) (p1_21 : Int) (w0 : World) (K : Bool → World → Prop) (h : F23 p0_0 p0_1 p0_2 p0_3 p0_4 p0_5 p0_6 p0_7 p0_8 p0_9 p0_10 p0_11 p0_12 p0_13 p0_14 p0_15 p0_16 p0_17 p0_18 p0_19 p0_20 p0_21 p1_0 p1_1 p1_2 p1_3 p1_4 p1_5 p1_6 p1_7 p1_8 p1_9 p1_10 p1_11 p1_12 p1_13 p1_14 p1_15 p1_16 p1_17 p1_18 p1_19 p1_20 p1_21 w0 K) : callC Try.prog 23 #[(V23 p0_0 p0_1 p0_2 p0_3 p0_4 p0_5 p0_6 p0_7 p0_8 p0_9 p0_10 p0_11 p0_12 p0_13 p0_14 p0_15 p0_16 p0_17 p0_18 p0_19 p0_20 p0_21), (V23 p1_0 p1_1 p1_2 p1_3 p1_4 p1_5 p1_6 p1_7 p1_8 p1_9 p1_10 p1_11 p1_12 p1_13 p1_14 p1_15 p1_16 p1_17 p1_18 p1_19 p1_20 p1_21)] (fun (r : Bool) => (Value.bool r)) w0 K := by
  unfold F23 at h
  refine calls_of_wpC Try.func23 rfl 123 rfl (by simp) ?_
  intro ρ hρ
  have e0 : ρ 0 = (V23 p0_0 p0_1 p0_2 p0_3 p0_4 p0_5 p0_6 p0_7 p0_8 p0_9 p0_10 p0_11 p0_12 p0_13 p0_14 p0_15 p0_16 p0_17 p0_18 p0_19 p0_20 p0_21) := hρ 0
  have e1 : ρ 1 = (V23 p1_0 p1_1 p1_2 p1_3 p1_4 p1_5 p1_6 p1_7 p1_8 p1_9 p1_10 p1_11 p1_12 p1_13 p1_14 p1_15 p1_16 p1_17 p1_18 p1_19 p1_20 p1_21) := hρ 1
  clear hρ
  refine wpC_seq ?_
  refine wpC_region ?_
  obtain ⟨b9, hb9⟩ : ∃ u, u = w0.heap.size := ⟨_, rfl⟩
  obtain ⟨w1, hw9⟩ : ∃ u, u = w0.alloc (.cells (A23 p0_0 p0_1 p0_2 p0_3 p0_4 p0_5 p0_6 p0_7 p0_8 p0_9 p0_10 p0_11 p0_12 p0_13 p0_14 p0_15 p0_16 p0_17 p0_18 p0_19 p0_20 p0_21) 24) := ⟨_, rfl⟩
  replace h := h b9 w1 hb9 hw9
  refine wpR_val (v := (Value.pointer (some (Addr.mk b9 0 none)))) (w' := w1) rfl rfl rfl ((x_box (v := (V23 p0_0 p0_1 p0_2 p0_3 p0_4 p0_5 p0_6 p0_7 p0_8 p0_9 p0_10 p0_11 p0_12 p0_13 p0_14 p0_15 p0_16 p0_17 p0_18 p0_19 p0_20 p0_21)) rfl e0).trans (by rw [hb9, hw9]; rfl)) ?_
  obtain ⟨b10, hb10⟩ : ∃ u, u = w1.heap.size := ⟨_, rfl⟩
  obtain ⟨w2, hw10⟩ : ∃ u, u = w1.alloc (.cells (A23 p1_0 p1_1 p1_2 p1_3 p1_4 p1_5 p1_6 p1_7 p1_8 p1_9 p1_10 p1_11 p1_12 p1_13 p1_14 p1_15 p1_16 p1_17 p1_18 p1_19 p1_20 p1_21) 24) := ⟨_, rfl⟩
  replace h := h b10 w2 hb10 hw10
  refine wpR_val (v := (Value.pointer (some (Addr.mk b10 0 none)))) (w' := w2) rfl rfl rfl ((x_box (v := (V23 p1_0 p1_1 p1_2 p1_3 p1_4 p1_5 p1_6 p1_7 p1_8 p1_9 p1_10 p1_11 p1_12 p1_13 p1_14 p1_15 p1_16 p1_17 p1_18 p1_19 p1_20 p1_21)) rfl e1).trans (by rw [hb10, hw10]; rfl)) ?_
  refine wpR_val (v := (Value.bool false)) (w' := w2) rfl rfl rfl (x_assign (v := (Value.bool false)) rfl rfl) ?_
  refine wpR_nil ?_
  refine wpC_seq ?_
  refine wpC_cut (fun ρ => ρ 2 = (Value.pointer (some (Addr.mk b9 0 none))) ∧ ρ 3 = (Value.pointer (some (Addr.mk b10 0 none))) ∧ True) ⟨rfl, rfl, trivial⟩ ?_
  rintro ρ ⟨e2, e3, -⟩
  refine wpC_region ?_
  refine wpR_val (v := (Value.pointer (some ((Addr.mk b9 0 none).add 1)))) (w' := w2) rfl rfl rfl (x_fieldAddr rfl e2 FA_24_1) ?_
  obtain ⟨x11, q11, h⟩ := h
  refine wpR_val (v := (Value.int .i64 x11)) (w' := w2) rfl rfl rfl (x_load1 rfl rfl SH_3 q11) ?_
  refine wpR_val (v := (Value.pointer (some ((Addr.mk b10 0 none).add 1)))) (w' := w2) rfl rfl rfl (x_fieldAddr rfl e3 FA_24_1) ?_
  obtain ⟨x12, q12, h⟩ := h
  refine wpR_val (v := (Value.int .i64 x12)) (w' := w2) rfl rfl rfl (x_load1 rfl rfl SH_3 q12) ?_
  refine wpR_val (v := (Value.bool (decide (x11 ≤ x12)))) (w' := w2) rfl rfl rfl (x_leq rfl rfl rfl) ?_
  refine wpR_val (v := (Value.bool (decide (x11 ≤ x12)))) (w' := w2) rfl rfl rfl (x_move (v := (Value.bool (decide (x11 ≤ x12)))) rfl rfl) ?_
  obtain ⟨J13, h, hk⟩ := h
  refine wpR_joinJ 6 (fun x ρ => ρ 20 = Value.bool x ∧ ρ 2 = (Value.pointer (some (Addr.mk b9 0 none))) ∧ ρ 3 = (Value.pointer (some (Addr.mk b10 0 none))) ∧ True) (fun x w => J13 x ∧ w2 = w) ?_ ?_
  · clear hk
    rcases Bool.eq_false_or_eq_true (decide (x11 ≤ x12)) with hc14 | hc14
    · replace h := h.1 hc14
      refine wpR_val (v := (Value.pointer (some ((Addr.mk b9 0 none).add 3)))) (w' := w2) (wantG rfl rfl rfl hc14) rfl rfl (x_fieldAddr rfl e2 FA_24_3) ?_
      obtain ⟨x15, q15, h⟩ := h
      refine wpR_val (v := (Value.int .i64 x15)) (w' := w2) (wantG rfl rfl rfl hc14) rfl rfl (x_load1 rfl rfl SH_3 q15) ?_
      refine wpR_val (v := (Value.pointer (some ((Addr.mk b10 0 none).add 3)))) (w' := w2) (wantG rfl rfl rfl hc14) rfl rfl (x_fieldAddr rfl e3 FA_24_3) ?_
      obtain ⟨x16, q16, h⟩ := h
      refine wpR_val (v := (Value.int .i64 x16)) (w' := w2) (wantG rfl rfl rfl hc14) rfl rfl (x_load1 rfl rfl SH_3 q16) ?_
      refine wpR_val (v := (Value.bool (decide (x15 ≤ x16)))) (w' := w2) (wantG rfl rfl rfl hc14) rfl rfl (x_leq rfl rfl rfl) ?_
      refine wpR_val (v := (Value.bool (decide (x15 ≤ x16)))) (w' := w2) rfl rfl rfl (x_pickT (v := (Value.bool (decide (x15 ≤ x16)))) rfl rfl hc14 rfl) ?_
      refine wpR_nil ?_
      exact ⟨decide (x15 ≤ x16), ⟨rfl, e2, e3, trivial⟩, h, rfl⟩
    · replace h := h.2 hc14
      refine wpR_pass (wantN rfl rfl rfl hc14) rfl rfl ?_
      refine wpR_pass (wantN rfl rfl rfl hc14) rfl rfl ?_
      refine wpR_pass (wantN rfl rfl rfl hc14) rfl rfl ?_
      refine wpR_pass (wantN rfl rfl rfl hc14) rfl rfl ?_
      refine wpR_pass (wantN rfl rfl rfl hc14) rfl rfl ?_
      refine wpR_val (v := (Value.bool false)) (w' := w2) rfl rfl rfl (x_pickF (v := (Value.bool false)) rfl rfl hc14 rfl) ?_
      refine wpR_nil ?_
      exact ⟨false, ⟨rfl, e2, e3, trivial⟩, h, rfl⟩
  clear h
  rintro c17 ρ wj ⟨e20, e2, e3, -⟩ ⟨h, rfl⟩
  replace h := hk c17 h
  clear hk
  refine wpR_val (v := (Value.bool c17)) (w' := w2) rfl rfl rfl (x_move (v := (Value.bool c17)) rfl e20) ?_
  obtain ⟨J18, h, hk⟩ := h
  refine wpR_joinJ 6 (fun x ρ => ρ 27 = Value.bool x ∧ ρ 2 = (Value.pointer (some (Addr.mk b9 0 none))) ∧ ρ 3 = (Value.pointer (some (Addr.mk b10 0 none))) ∧ True) (fun x w => J18 x ∧ w2 = w) ?_ ?_
  · clear hk
    rcases Bool.eq_false_or_eq_true (c17) with hc19 | hc19
    · replace h := h.1 hc19
      refine wpR_val (v := (Value.pointer (some ((Addr.mk b9 0 none).add 5)))) (w' := w2) (wantG rfl rfl rfl hc19) rfl rfl (x_fieldAddr rfl e2 FA_24_5) ?_
      obtain ⟨x20, q20, h⟩ := h
      refine wpR_val (v := (Value.int .i64 x20)) (w' := w2) (wantG rfl rfl rfl hc19) rfl rfl (x_load1 rfl rfl SH_3 q20) ?_
      refine wpR_val (v := (Value.pointer (some ((Addr.mk b10 0 none).add 5)))) (w' := w2) (wantG rfl rfl rfl hc19) rfl rfl (x_fieldAddr rfl e3 FA_24_5) ?_
      obtain ⟨x21, q21, h⟩ := h
      refine wpR_val (v := (Value.int .i64 x21)) (w' := w2) (wantG rfl rfl rfl hc19) rfl rfl (x_load1 rfl rfl SH_3 q21) ?_
      refine wpR_val (v := (Value.bool (decide (x20 ≤ x21)))) (w' := w2) (wantG rfl rfl rfl hc19) rfl rfl (x_leq rfl rfl rfl) ?_
      refine wpR_val (v := (Value.bool (decide (x20 ≤ x21)))) (w' := w2) rfl rfl rfl (x_pickT (v := (Value.bool (decide (x20 ≤ x21)))) rfl rfl hc19 rfl) ?_
      refine wpR_nil ?_
      exact ⟨decide (x20 ≤ x21), ⟨rfl, e2, e3, trivial⟩, h, rfl⟩
    · replace h := h.2 hc19
      refine wpR_pass (wantN rfl rfl rfl hc19) rfl rfl ?_
      refine wpR_pass (wantN rfl rfl rfl hc19) rfl rfl ?_
      refine wpR_pass (wantN rfl rfl rfl hc19) rfl rfl ?_
      refine wpR_pass (wantN rfl rfl rfl hc19) rfl rfl ?_
      refine wpR_pass (wantN rfl rfl rfl hc19) rfl rfl ?_
      refine wpR_val (v := (Value.bool false)) (w' := w2) rfl rfl rfl (x_pickF (v := (Value.bool false)) rfl rfl hc19 rfl) ?_
      refine wpR_nil ?_
      exact ⟨false, ⟨rfl, e2, e3, trivial⟩, h, rfl⟩
  clear h
  rintro c22 ρ wj ⟨e27, e2, e3, -⟩ ⟨h, rfl⟩
  replace h := hk c22 h
  clear hk
  refine wpR_val (v := (Value.bool c22)) (w' := w2) rfl rfl rfl (x_move (v := (Value.bool c22)) rfl e27) ?_
  obtain ⟨J23, h, hk⟩ := h
  refine wpR_joinJ 6 (fun x ρ => ρ 34 = Value.bool x ∧ ρ 2 = (Value.pointer (some (Addr.mk b9 0 none))) ∧ ρ 3 = (Value.pointer (some (Addr.mk b10 0 none))) ∧ True) (fun x w => J23 x ∧ w2 = w) ?_ ?_
  · clear hk
    rcases Bool.eq_false_or_eq_true (c22) with hc24 | hc24
    · replace h := h.1 hc24
      refine wpR_val (v := (Value.pointer (some ((Addr.mk b9 0 none).add 8)))) (w' := w2) (wantG rfl rfl rfl hc24) rfl rfl (x_fieldAddr rfl e2 FA_24_8) ?_
      obtain ⟨x25, q25, h⟩ := h
      refine wpR_val (v := (Value.int .i64 x25)) (w' := w2) (wantG rfl rfl rfl hc24) rfl rfl (x_load1 rfl rfl SH_3 q25) ?_
      refine wpR_val (v := (Value.pointer (some ((Addr.mk b10 0 none).add 8)))) (w' := w2) (wantG rfl rfl rfl hc24) rfl rfl (x_fieldAddr rfl e3 FA_24_8) ?_
      obtain ⟨x26, q26, h⟩ := h
      refine wpR_val (v := (Value.int .i64 x26)) (w' := w2) (wantG rfl rfl rfl hc24) rfl rfl (x_load1 rfl rfl SH_3 q26) ?_
      refine wpR_val (v := (Value.bool (decide (x25 ≤ x26)))) (w' := w2) (wantG rfl rfl rfl hc24) rfl rfl (x_leq rfl rfl rfl) ?_
      refine wpR_val (v := (Value.bool (decide (x25 ≤ x26)))) (w' := w2) rfl rfl rfl (x_pickT (v := (Value.bool (decide (x25 ≤ x26)))) rfl rfl hc24 rfl) ?_
      refine wpR_nil ?_
      exact ⟨decide (x25 ≤ x26), ⟨rfl, e2, e3, trivial⟩, h, rfl⟩
    · replace h := h.2 hc24
      refine wpR_pass (wantN rfl rfl rfl hc24) rfl rfl ?_
      refine wpR_pass (wantN rfl rfl rfl hc24) rfl rfl ?_
      refine wpR_pass (wantN rfl rfl rfl hc24) rfl rfl ?_
      refine wpR_pass (wantN rfl rfl rfl hc24) rfl rfl ?_
      refine wpR_pass (wantN rfl rfl rfl hc24) rfl rfl ?_
      refine wpR_val (v := (Value.bool false)) (w' := w2) rfl rfl rfl (x_pickF (v := (Value.bool false)) rfl rfl hc24 rfl) ?_
      refine wpR_nil ?_
      exact ⟨false, ⟨rfl, e2, e3, trivial⟩, h, rfl⟩
  clear h
  rintro c27 ρ wj ⟨e34, e2, e3, -⟩ ⟨h, rfl⟩
  replace h := hk c27 h
  clear hk
  refine wpR_val (v := (Value.bool c27)) (w' := w2) rfl rfl rfl (x_move (v := (Value.bool c27)) rfl e34) ?_
  obtain ⟨J28, h, hk⟩ := h
  refine wpR_joinJ 6 (fun x ρ => ρ 41 = Value.bool x ∧ ρ 2 = (Value.pointer (some (Addr.mk b9 0 none))) ∧ ρ 3 = (Value.pointer (some (Addr.mk b10 0 none))) ∧ True) (fun x w => J28 x ∧ w2 = w) ?_ ?_
  · clear hk
    rcases Bool.eq_false_or_eq_true (c27) with hc29 | hc29
    · replace h := h.1 hc29
      refine wpR_val (v := (Value.pointer (some ((Addr.mk b9 0 none).add 9)))) (w' := w2) (wantG rfl rfl rfl hc29) rfl rfl (x_fieldAddr rfl e2 FA_24_9) ?_
      obtain ⟨x30, q30, h⟩ := h
      refine wpR_val (v := (Value.int .i64 x30)) (w' := w2) (wantG rfl rfl rfl hc29) rfl rfl (x_load1 rfl rfl SH_3 q30) ?_
      refine wpR_val (v := (Value.pointer (some ((Addr.mk b10 0 none).add 9)))) (w' := w2) (wantG rfl rfl rfl hc29) rfl rfl (x_fieldAddr rfl e3 FA_24_9) ?_
      obtain ⟨x31, q31, h⟩ := h
      refine wpR_val (v := (Value.int .i64 x31)) (w' := w2) (wantG rfl rfl rfl hc29) rfl rfl (x_load1 rfl rfl SH_3 q31) ?_
      refine wpR_val (v := (Value.bool (decide (x30 ≤ x31)))) (w' := w2) (wantG rfl rfl rfl hc29) rfl rfl (x_leq rfl rfl rfl) ?_
      refine wpR_val (v := (Value.bool (decide (x30 ≤ x31)))) (w' := w2) rfl rfl rfl (x_pickT (v := (Value.bool (decide (x30 ≤ x31)))) rfl rfl hc29 rfl) ?_
      refine wpR_nil ?_
      exact ⟨decide (x30 ≤ x31), ⟨rfl, e2, e3, trivial⟩, h, rfl⟩
    · replace h := h.2 hc29
      refine wpR_pass (wantN rfl rfl rfl hc29) rfl rfl ?_
      refine wpR_pass (wantN rfl rfl rfl hc29) rfl rfl ?_
      refine wpR_pass (wantN rfl rfl rfl hc29) rfl rfl ?_
      refine wpR_pass (wantN rfl rfl rfl hc29) rfl rfl ?_
      refine wpR_pass (wantN rfl rfl rfl hc29) rfl rfl ?_
      refine wpR_val (v := (Value.bool false)) (w' := w2) rfl rfl rfl (x_pickF (v := (Value.bool false)) rfl rfl hc29 rfl) ?_
      refine wpR_nil ?_
      exact ⟨false, ⟨rfl, e2, e3, trivial⟩, h, rfl⟩
  clear h
  rintro c32 ρ wj ⟨e41, e2, e3, -⟩ ⟨h, rfl⟩
  replace h := hk c32 h
  clear hk
  refine wpR_val (v := (Value.bool c32)) (w' := w2) rfl rfl rfl (x_move (v := (Value.bool c32)) rfl e41) ?_
  obtain ⟨J33, h, hk⟩ := h
  refine wpR_joinJ 6 (fun x ρ => ρ 48 = Value.bool x ∧ ρ 2 = (Value.pointer (some (Addr.mk b9 0 none))) ∧ ρ 3 = (Value.pointer (some (Addr.mk b10 0 none))) ∧ True) (fun x w => J33 x ∧ w2 = w) ?_ ?_
  · clear hk
    rcases Bool.eq_false_or_eq_true (c32) with hc34 | hc34
    · replace h := h.1 hc34
      refine wpR_val (v := (Value.pointer (some ((Addr.mk b9 0 none).add 10)))) (w' := w2) (wantG rfl rfl rfl hc34) rfl rfl (x_fieldAddr rfl e2 FA_24_10) ?_
      obtain ⟨x35, q35, h⟩ := h
      refine wpR_val (v := (Value.int .i64 x35)) (w' := w2) (wantG rfl rfl rfl hc34) rfl rfl (x_load1 rfl rfl SH_3 q35) ?_
      refine wpR_val (v := (Value.pointer (some ((Addr.mk b10 0 none).add 10)))) (w' := w2) (wantG rfl rfl rfl hc34) rfl rfl (x_fieldAddr rfl e3 FA_24_10) ?_
      obtain ⟨x36, q36, h⟩ := h
      refine wpR_val (v := (Value.int .i64 x36)) (w' := w2) (wantG rfl rfl rfl hc34) rfl rfl (x_load1 rfl rfl SH_3 q36) ?_
      refine wpR_val (v := (Value.bool (decide (x35 ≤ x36)))) (w' := w2) (wantG rfl rfl rfl hc34) rfl rfl (x_leq rfl rfl rfl) ?_
      refine wpR_val (v := (Value.bool (decide (x35 ≤ x36)))) (w' := w2) rfl rfl rfl (x_pickT (v := (Value.bool (decide (x35 ≤ x36)))) rfl rfl hc34 rfl) ?_
      refine wpR_nil ?_
      exact ⟨decide (x35 ≤ x36), ⟨rfl, e2, e3, trivial⟩, h, rfl⟩
    · replace h := h.2 hc34
      refine wpR_pass (wantN rfl rfl rfl hc34) rfl rfl ?_
      refine wpR_pass (wantN rfl rfl rfl hc34) rfl rfl ?_
      refine wpR_pass (wantN rfl rfl rfl hc34) rfl rfl ?_
      refine wpR_pass (wantN rfl rfl rfl hc34) rfl rfl ?_
      refine wpR_pass (wantN rfl rfl rfl hc34) rfl rfl ?_
      refine wpR_val (v := (Value.bool false)) (w' := w2) rfl rfl rfl (x_pickF (v := (Value.bool false)) rfl rfl hc34 rfl) ?_
      refine wpR_nil ?_
      exact ⟨false, ⟨rfl, e2, e3, trivial⟩, h, rfl⟩
  clear h
  rintro c37 ρ wj ⟨e48, e2, e3, -⟩ ⟨h, rfl⟩
  replace h := hk c37 h
  clear hk
  refine wpR_val (v := (Value.bool c37)) (w' := w2) rfl rfl rfl (x_move (v := (Value.bool c37)) rfl e48) ?_
  obtain ⟨J38, h, hk⟩ := h
  refine wpR_joinJ 6 (fun x ρ => ρ 55 = Value.bool x ∧ ρ 2 = (Value.pointer (some (Addr.mk b9 0 none))) ∧ ρ 3 = (Value.pointer (some (Addr.mk b10 0 none))) ∧ True) (fun x w => J38 x ∧ w2 = w) ?_ ?_
  · clear hk
    rcases Bool.eq_false_or_eq_true (c37) with hc39 | hc39
    · replace h := h.1 hc39
      refine wpR_val (v := (Value.pointer (some ((Addr.mk b9 0 none).add 11)))) (w' := w2) (wantG rfl rfl rfl hc39) rfl rfl (x_fieldAddr rfl e2 FA_24_11) ?_
      obtain ⟨x40, q40, h⟩ := h
      refine wpR_val (v := (Value.int .i64 x40)) (w' := w2) (wantG rfl rfl rfl hc39) rfl rfl (x_load1 rfl rfl SH_3 q40) ?_
      refine wpR_val (v := (Value.pointer (some ((Addr.mk b10 0 none).add 11)))) (w' := w2) (wantG rfl rfl rfl hc39) rfl rfl (x_fieldAddr rfl e3 FA_24_11) ?_
      obtain ⟨x41, q41, h⟩ := h
      refine wpR_val (v := (Value.int .i64 x41)) (w' := w2) (wantG rfl rfl rfl hc39) rfl rfl (x_load1 rfl rfl SH_3 q41) ?_
      refine wpR_val (v := (Value.bool (decide (x40 ≤ x41)))) (w' := w2) (wantG rfl rfl rfl hc39) rfl rfl (x_leq rfl rfl rfl) ?_
      refine wpR_val (v := (Value.bool (decide (x40 ≤ x41)))) (w' := w2) rfl rfl rfl (x_pickT (v := (Value.bool (decide (x40 ≤ x41)))) rfl rfl hc39 rfl) ?_
      refine wpR_nil ?_
      exact ⟨decide (x40 ≤ x41), ⟨rfl, e2, e3, trivial⟩, h, rfl⟩
    · replace h := h.2 hc39
      refine wpR_pass (wantN rfl rfl rfl hc39) rfl rfl ?_
      refine wpR_pass (wantN rfl rfl rfl hc39) rfl rfl ?_
      refine wpR_pass (wantN rfl rfl rfl hc39) rfl rfl ?_
      refine wpR_pass (wantN rfl rfl rfl hc39) rfl rfl ?_
      refine wpR_pass (wantN rfl rfl rfl hc39) rfl rfl ?_
      refine wpR_val (v := (Value.bool false)) (w' := w2) rfl rfl rfl (x_pickF (v := (Value.bool false)) rfl rfl hc39 rfl) ?_
      refine wpR_nil ?_
      exact ⟨false, ⟨rfl, e2, e3, trivial⟩, h, rfl⟩
  clear h
  rintro c42 ρ wj ⟨e55, e2, e3, -⟩ ⟨h, rfl⟩
  replace h := hk c42 h
  clear hk
  refine wpR_val (v := (Value.bool c42)) (w' := w2) rfl rfl rfl (x_move (v := (Value.bool c42)) rfl e55) ?_
  obtain ⟨J43, h, hk⟩ := h
  refine wpR_joinJ 6 (fun x ρ => ρ 62 = Value.bool x ∧ ρ 2 = (Value.pointer (some (Addr.mk b9 0 none))) ∧ ρ 3 = (Value.pointer (some (Addr.mk b10 0 none))) ∧ True) (fun x w => J43 x ∧ w2 = w) ?_ ?_
  · clear hk
    rcases Bool.eq_false_or_eq_true (c42) with hc44 | hc44
    · replace h := h.1 hc44
      refine wpR_val (v := (Value.pointer (some ((Addr.mk b9 0 none).add 16)))) (w' := w2) (wantG rfl rfl rfl hc44) rfl rfl (x_fieldAddr rfl e2 FA_24_16) ?_
      obtain ⟨x45, q45, h⟩ := h
      refine wpR_val (v := (Value.int .i64 x45)) (w' := w2) (wantG rfl rfl rfl hc44) rfl rfl (x_load1 rfl rfl SH_3 q45) ?_
      refine wpR_val (v := (Value.pointer (some ((Addr.mk b10 0 none).add 16)))) (w' := w2) (wantG rfl rfl rfl hc44) rfl rfl (x_fieldAddr rfl e3 FA_24_16) ?_
      obtain ⟨x46, q46, h⟩ := h
      refine wpR_val (v := (Value.int .i64 x46)) (w' := w2) (wantG rfl rfl rfl hc44) rfl rfl (x_load1 rfl rfl SH_3 q46) ?_
      refine wpR_val (v := (Value.bool (decide (x45 ≤ x46)))) (w' := w2) (wantG rfl rfl rfl hc44) rfl rfl (x_leq rfl rfl rfl) ?_
      refine wpR_val (v := (Value.bool (decide (x45 ≤ x46)))) (w' := w2) rfl rfl rfl (x_pickT (v := (Value.bool (decide (x45 ≤ x46)))) rfl rfl hc44 rfl) ?_
      refine wpR_nil ?_
      exact ⟨decide (x45 ≤ x46), ⟨rfl, e2, e3, trivial⟩, h, rfl⟩
    · replace h := h.2 hc44
      refine wpR_pass (wantN rfl rfl rfl hc44) rfl rfl ?_
      refine wpR_pass (wantN rfl rfl rfl hc44) rfl rfl ?_
      refine wpR_pass (wantN rfl rfl rfl hc44) rfl rfl ?_
      refine wpR_pass (wantN rfl rfl rfl hc44) rfl rfl ?_
      refine wpR_pass (wantN rfl rfl rfl hc44) rfl rfl ?_
      refine wpR_val (v := (Value.bool false)) (w' := w2) rfl rfl rfl (x_pickF (v := (Value.bool false)) rfl rfl hc44 rfl) ?_
      refine wpR_nil ?_
      exact ⟨false, ⟨rfl, e2, e3, trivial⟩, h, rfl⟩
  clear h
  rintro c47 ρ wj ⟨e62, e2, e3, -⟩ ⟨h, rfl⟩
  replace h := hk c47 h
  clear hk
  refine wpR_val (v := (Value.bool c47)) (w' := w2) rfl rfl rfl (x_assign (v := (Value.bool c47)) rfl e62) ?_
  refine wpR_nil ?_
  refine wpC_seq ?_
  refine wpC_cut (fun ρ => ρ 2 = (Value.pointer (some (Addr.mk b9 0 none))) ∧ ρ 3 = (Value.pointer (some (Addr.mk b10 0 none))) ∧ ρ 5 = (Value.bool c47) ∧ True) ⟨e2, e3, rfl, trivial⟩ ?_
  rintro ρ ⟨e2, e3, e5, -⟩
  refine wpC_region ?_
  refine wpR_val (v := (Value.pointer (some ((Addr.mk b9 0 none).add 4)))) (w' := w2) rfl rfl rfl (x_fieldAddr rfl e2 FA_24_4) ?_
  obtain ⟨x48, q48, h⟩ := h
  refine wpR_val (v := (Value.bool x48)) (w' := w2) rfl rfl rfl (x_load1 rfl rfl SH_4 q48) ?_
  refine wpR_val (v := (Value.bool (!x48))) (w' := w2) rfl rfl rfl (x_not rfl rfl) ?_
  refine wpR_val (v := (Value.bool (!x48))) (w' := w2) rfl rfl rfl (x_move (v := (Value.bool (!x48))) rfl rfl) ?_
  obtain ⟨J49, h, hk⟩ := h
  refine wpR_joinJ 3 (fun x ρ => ρ 69 = Value.bool x ∧ ρ 2 = (Value.pointer (some (Addr.mk b9 0 none))) ∧ ρ 3 = (Value.pointer (some (Addr.mk b10 0 none))) ∧ ρ 5 = (Value.bool c47) ∧ True) (fun x w => J49 x ∧ w2 = w) ?_ ?_
  · clear hk
    rcases Bool.eq_false_or_eq_true (!x48) with hc50 | hc50
    · replace h := h.1 hc50
      refine wpR_pass (wantN rfl rfl rfl hc50) rfl rfl ?_
      refine wpR_pass (wantN rfl rfl rfl hc50) rfl rfl ?_
      refine wpR_val (v := (Value.bool true)) (w' := w2) rfl rfl rfl (x_pickT (v := (Value.bool true)) rfl rfl hc50 rfl) ?_
      refine wpR_nil ?_
      exact ⟨true, ⟨rfl, e2, e3, e5, trivial⟩, h, rfl⟩
    · replace h := h.2 hc50
      refine wpR_val (v := (Value.pointer (some ((Addr.mk b10 0 none).add 4)))) (w' := w2) (wantG rfl rfl rfl hc50) rfl rfl (x_fieldAddr rfl e3 FA_24_4) ?_
      obtain ⟨x51, q51, h⟩ := h
      refine wpR_val (v := (Value.bool x51)) (w' := w2) (wantG rfl rfl rfl hc50) rfl rfl (x_load1 rfl rfl SH_4 q51) ?_
      refine wpR_val (v := (Value.bool x51)) (w' := w2) rfl rfl rfl (x_pickF (v := (Value.bool x51)) rfl rfl hc50 rfl) ?_
      refine wpR_nil ?_
      exact ⟨x51, ⟨rfl, e2, e3, e5, trivial⟩, h, rfl⟩
  clear h
  rintro c52 ρ wj ⟨e69, e2, e3, e5, -⟩ ⟨h, rfl⟩
  replace h := hk c52 h
  clear hk
  refine wpR_val (v := (Value.bool c52)) (w' := w2) rfl rfl rfl (x_move (v := (Value.bool c52)) rfl e69) ?_
  obtain ⟨J53, h, hk⟩ := h
  refine wpR_joinJ 8 (fun x ρ => ρ 78 = Value.bool x ∧ ρ 2 = (Value.pointer (some (Addr.mk b9 0 none))) ∧ ρ 3 = (Value.pointer (some (Addr.mk b10 0 none))) ∧ ρ 5 = (Value.bool c47) ∧ True) (fun x w => J53 x ∧ w2 = w) ?_ ?_
  · clear hk
    rcases Bool.eq_false_or_eq_true (c52) with hc54 | hc54
    · replace h := h.1 hc54
      refine wpR_val (v := (Value.pointer (some ((Addr.mk b9 0 none).add 6)))) (w' := w2) (wantG rfl rfl rfl hc54) rfl rfl (x_fieldAddr rfl e2 FA_24_6) ?_
      obtain ⟨x55, q55, h⟩ := h
      refine wpR_val (v := (Value.bool x55)) (w' := w2) (wantG rfl rfl rfl hc54) rfl rfl (x_load1 rfl rfl SH_4 q55) ?_
      refine wpR_val (v := (Value.bool (!x55))) (w' := w2) (wantG rfl rfl rfl hc54) rfl rfl (x_not rfl rfl) ?_
      refine wpR_val (v := (Value.bool (!x55))) (w' := w2) (wantG rfl rfl rfl hc54) rfl rfl (x_move (v := (Value.bool (!x55))) rfl rfl) ?_
      obtain ⟨J56, h, hk⟩ := h
      refine wpR_joinJ 3 (fun x ρ => ρ 77 = Value.bool x ∧ ρ 2 = (Value.pointer (some (Addr.mk b9 0 none))) ∧ ρ 3 = (Value.pointer (some (Addr.mk b10 0 none))) ∧ ρ 5 = (Value.bool c47) ∧ ρ 70 = (Value.bool c52) ∧ True) (fun x w => J56 x ∧ w2 = w) ?_ ?_
      · clear hk
        rcases Bool.eq_false_or_eq_true (!x55) with hc57 | hc57
        · replace h := h.1 hc57
          refine wpR_pass (wantN rfl rfl rfl hc57) rfl rfl ?_
          refine wpR_pass (wantN rfl rfl rfl hc57) rfl rfl ?_
          refine wpR_val (v := (Value.bool true)) (w' := w2) (wantG rfl rfl rfl hc54) rfl rfl (x_pickT (v := (Value.bool true)) rfl rfl hc57 rfl) ?_
          refine wpR_nil ?_
          exact ⟨true, ⟨rfl, e2, e3, e5, rfl, trivial⟩, h, rfl⟩
        · replace h := h.2 hc57
          refine wpR_val (v := (Value.pointer (some ((Addr.mk b10 0 none).add 6)))) (w' := w2) (wantG rfl rfl rfl hc57) rfl rfl (x_fieldAddr rfl e3 FA_24_6) ?_
          obtain ⟨x58, q58, h⟩ := h
          refine wpR_val (v := (Value.bool x58)) (w' := w2) (wantG rfl rfl rfl hc57) rfl rfl (x_load1 rfl rfl SH_4 q58) ?_
          refine wpR_val (v := (Value.bool x58)) (w' := w2) (wantG rfl rfl rfl hc54) rfl rfl (x_pickF (v := (Value.bool x58)) rfl rfl hc57 rfl) ?_
          refine wpR_nil ?_
          exact ⟨x58, ⟨rfl, e2, e3, e5, rfl, trivial⟩, h, rfl⟩
      clear h
      rintro c59 ρ wj ⟨e77, e2, e3, e5, e70, -⟩ ⟨h, rfl⟩
      replace h := hk c59 h
      clear hk
      refine wpR_val (v := (Value.bool c59)) (w' := w2) rfl rfl rfl (x_pickT (v := (Value.bool c59)) rfl e70 hc54 e77) ?_
      refine wpR_nil ?_
      exact ⟨c59, ⟨rfl, e2, e3, e5, trivial⟩, h, rfl⟩
    · replace h := h.2 hc54
      refine wpR_pass (wantN rfl rfl rfl hc54) rfl rfl ?_
      refine wpR_pass (wantN rfl rfl rfl hc54) rfl rfl ?_
      refine wpR_pass (wantN rfl rfl rfl hc54) rfl rfl ?_
      refine wpR_pass (wantN rfl rfl rfl hc54) rfl rfl ?_
      refine wpR_pass (wantU rfl rfl rfl) rfl rfl ?_
      refine wpR_pass (wantU rfl rfl rfl) rfl rfl ?_
      refine wpR_pass (wantN rfl rfl rfl hc54) rfl rfl ?_
      refine wpR_val (v := (Value.bool false)) (w' := w2) rfl rfl rfl (x_pickF (v := (Value.bool false)) rfl rfl hc54 rfl) ?_
      refine wpR_nil ?_
      exact ⟨false, ⟨rfl, e2, e3, e5, trivial⟩, h, rfl⟩
  clear h
  rintro c60 ρ wj ⟨e78, e2, e3, e5, -⟩ ⟨h, rfl⟩
  replace h := hk c60 h
  clear hk
  refine wpR_val (v := (Value.bool c60)) (w' := w2) rfl rfl rfl (x_move (v := (Value.bool c60)) rfl e78) ?_
  obtain ⟨J61, h, hk⟩ := h
  refine wpR_joinJ 8 (fun x ρ => ρ 87 = Value.bool x ∧ ρ 2 = (Value.pointer (some (Addr.mk b9 0 none))) ∧ ρ 3 = (Value.pointer (some (Addr.mk b10 0 none))) ∧ ρ 5 = (Value.bool c47) ∧ True) (fun x w => J61 x ∧ w2 = w) ?_ ?_
  · clear hk
    rcases Bool.eq_false_or_eq_true (c60) with hc62 | hc62
    · replace h := h.1 hc62
      refine wpR_val (v := (Value.pointer (some ((Addr.mk b9 0 none).add 7)))) (w' := w2) (wantG rfl rfl rfl hc62) rfl rfl (x_fieldAddr rfl e2 FA_24_7) ?_
      obtain ⟨x63, q63, h⟩ := h
      refine wpR_val (v := (Value.bool x63)) (w' := w2) (wantG rfl rfl rfl hc62) rfl rfl (x_load1 rfl rfl SH_4 q63) ?_
      refine wpR_val (v := (Value.bool (!x63))) (w' := w2) (wantG rfl rfl rfl hc62) rfl rfl (x_not rfl rfl) ?_
      refine wpR_val (v := (Value.bool (!x63))) (w' := w2) (wantG rfl rfl rfl hc62) rfl rfl (x_move (v := (Value.bool (!x63))) rfl rfl) ?_
      obtain ⟨J64, h, hk⟩ := h
      refine wpR_joinJ 3 (fun x ρ => ρ 86 = Value.bool x ∧ ρ 2 = (Value.pointer (some (Addr.mk b9 0 none))) ∧ ρ 3 = (Value.pointer (some (Addr.mk b10 0 none))) ∧ ρ 5 = (Value.bool c47) ∧ ρ 79 = (Value.bool c60) ∧ True) (fun x w => J64 x ∧ w2 = w) ?_ ?_
      · clear hk
        rcases Bool.eq_false_or_eq_true (!x63) with hc65 | hc65
        · replace h := h.1 hc65
          refine wpR_pass (wantN rfl rfl rfl hc65) rfl rfl ?_
          refine wpR_pass (wantN rfl rfl rfl hc65) rfl rfl ?_
          refine wpR_val (v := (Value.bool true)) (w' := w2) (wantG rfl rfl rfl hc62) rfl rfl (x_pickT (v := (Value.bool true)) rfl rfl hc65 rfl) ?_
          refine wpR_nil ?_
          exact ⟨true, ⟨rfl, e2, e3, e5, rfl, trivial⟩, h, rfl⟩
        · replace h := h.2 hc65
          refine wpR_val (v := (Value.pointer (some ((Addr.mk b10 0 none).add 7)))) (w' := w2) (wantG rfl rfl rfl hc65) rfl rfl (x_fieldAddr rfl e3 FA_24_7) ?_
          obtain ⟨x66, q66, h⟩ := h
          refine wpR_val (v := (Value.bool x66)) (w' := w2) (wantG rfl rfl rfl hc65) rfl rfl (x_load1 rfl rfl SH_4 q66) ?_
          refine wpR_val (v := (Value.bool x66)) (w' := w2) (wantG rfl rfl rfl hc62) rfl rfl (x_pickF (v := (Value.bool x66)) rfl rfl hc65 rfl) ?_
          refine wpR_nil ?_
          exact ⟨x66, ⟨rfl, e2, e3, e5, rfl, trivial⟩, h, rfl⟩
      clear h
      rintro c67 ρ wj ⟨e86, e2, e3, e5, e79, -⟩ ⟨h, rfl⟩
      replace h := hk c67 h
      clear hk
      refine wpR_val (v := (Value.bool c67)) (w' := w2) rfl rfl rfl (x_pickT (v := (Value.bool c67)) rfl e79 hc62 e86) ?_
      refine wpR_nil ?_
      exact ⟨c67, ⟨rfl, e2, e3, e5, trivial⟩, h, rfl⟩
    · replace h := h.2 hc62
      refine wpR_pass (wantN rfl rfl rfl hc62) rfl rfl ?_
      refine wpR_pass (wantN rfl rfl rfl hc62) rfl rfl ?_
      refine wpR_pass (wantN rfl rfl rfl hc62) rfl rfl ?_
      refine wpR_pass (wantN rfl rfl rfl hc62) rfl rfl ?_
      refine wpR_pass (wantU rfl rfl rfl) rfl rfl ?_
      refine wpR_pass (wantU rfl rfl rfl) rfl rfl ?_
      refine wpR_pass (wantN rfl rfl rfl hc62) rfl rfl ?_
      refine wpR_val (v := (Value.bool false)) (w' := w2) rfl rfl rfl (x_pickF (v := (Value.bool false)) rfl rfl hc62 rfl) ?_
      refine wpR_nil ?_
      exact ⟨false, ⟨rfl, e2, e3, e5, trivial⟩, h, rfl⟩
  clear h
  rintro c68 ρ wj ⟨e87, e2, e3, e5, -⟩ ⟨h, rfl⟩
  replace h := hk c68 h
  clear hk
  refine wpR_val (v := (Value.bool c68)) (w' := w2) rfl rfl rfl (x_assign (v := (Value.bool c68)) rfl e87) ?_
  refine wpR_nil ?_
  refine wpC_seq ?_
  refine wpC_cut (fun ρ => ρ 2 = (Value.pointer (some (Addr.mk b9 0 none))) ∧ ρ 3 = (Value.pointer (some (Addr.mk b10 0 none))) ∧ ρ 5 = (Value.bool c47) ∧ ρ 6 = (Value.bool c68) ∧ True) ⟨e2, e3, e5, rfl, trivial⟩ ?_
  rintro ρ ⟨e2, e3, e5, e6, -⟩
  refine wpC_region ?_
  refine wpR_val (v := (Value.pointer (some ((Addr.mk b9 0 none).add 1)))) (w' := w2) rfl rfl rfl (x_fieldAddr rfl e2 FA_24_1) ?_
  obtain ⟨x69, q69, h⟩ := h
  refine wpR_val (v := (Value.int .i64 x69)) (w' := w2) rfl rfl rfl (x_load1 rfl rfl SH_3 q69) ?_
  refine wpR_val (v := (Value.bool (decide (x69 = 0)))) (w' := w2) rfl rfl rfl (x_eql rfl rfl rfl) ?_
  refine wpR_val (v := (Value.bool (decide (x69 = 0)))) (w' := w2) rfl rfl rfl (x_move (v := (Value.bool (decide (x69 = 0)))) rfl rfl) ?_
  obtain ⟨J70, h, hk⟩ := h
  refine wpR_joinJ 4 (fun x ρ => ρ 95 = Value.bool x ∧ ρ 2 = (Value.pointer (some (Addr.mk b9 0 none))) ∧ ρ 3 = (Value.pointer (some (Addr.mk b10 0 none))) ∧ ρ 5 = (Value.bool c47) ∧ ρ 6 = (Value.bool c68) ∧ True) (fun x w => J70 x ∧ w2 = w) ?_ ?_
  · clear hk
    rcases Bool.eq_false_or_eq_true (decide (x69 = 0)) with hc71 | hc71
    · replace h := h.1 hc71
      refine wpR_pass (wantN rfl rfl rfl hc71) rfl rfl ?_
      refine wpR_pass (wantN rfl rfl rfl hc71) rfl rfl ?_
      refine wpR_pass (wantN rfl rfl rfl hc71) rfl rfl ?_
      refine wpR_val (v := (Value.bool true)) (w' := w2) rfl rfl rfl (x_pickT (v := (Value.bool true)) rfl rfl hc71 rfl) ?_
      refine wpR_nil ?_
      exact ⟨true, ⟨rfl, e2, e3, e5, e6, trivial⟩, h, rfl⟩
    · replace h := h.2 hc71
      refine wpR_val (v := (Value.pointer (some ((Addr.mk b10 0 none).add 2)))) (w' := w2) (wantG rfl rfl rfl hc71) rfl rfl (x_fieldAddr rfl e3 FA_24_2) ?_
      obtain ⟨x72, q72, h⟩ := h
      refine wpR_val (v := (Value.int .i64 x72)) (w' := w2) (wantG rfl rfl rfl hc71) rfl rfl (x_load1 rfl rfl SH_3 q72) ?_
      refine wpR_val (v := (Value.bool (decide (x72 = 0)))) (w' := w2) (wantG rfl rfl rfl hc71) rfl rfl (x_eql rfl rfl rfl) ?_
      refine wpR_val (v := (Value.bool (decide (x72 = 0)))) (w' := w2) rfl rfl rfl (x_pickF (v := (Value.bool (decide (x72 = 0)))) rfl rfl hc71 rfl) ?_
      refine wpR_nil ?_
      exact ⟨decide (x72 = 0), ⟨rfl, e2, e3, e5, e6, trivial⟩, h, rfl⟩
  clear h
  rintro c73 ρ wj ⟨e95, e2, e3, e5, e6, -⟩ ⟨h, rfl⟩
  replace h := hk c73 h
  clear hk
  refine wpR_val (v := (Value.bool c73)) (w' := w2) rfl rfl rfl (x_move (v := (Value.bool c73)) rfl e95) ?_
  obtain ⟨J74, h, hk⟩ := h
  refine wpR_joinJ 11 (fun x ρ => ρ 107 = Value.bool x ∧ ρ 2 = (Value.pointer (some (Addr.mk b9 0 none))) ∧ ρ 3 = (Value.pointer (some (Addr.mk b10 0 none))) ∧ ρ 5 = (Value.bool c47) ∧ ρ 6 = (Value.bool c68) ∧ True) (fun x w => J74 x ∧ w2 = w) ?_ ?_
  · clear hk
    rcases Bool.eq_false_or_eq_true (c73) with hc75 | hc75
    · replace h := h.1 hc75
      refine wpR_pass (wantN rfl rfl rfl hc75) rfl rfl ?_
      refine wpR_pass (wantN rfl rfl rfl hc75) rfl rfl ?_
      refine wpR_pass (wantN rfl rfl rfl hc75) rfl rfl ?_
      refine wpR_pass (wantN rfl rfl rfl hc75) rfl rfl ?_
      refine wpR_pass (wantU rfl rfl rfl) rfl rfl ?_
      refine wpR_pass (wantU rfl rfl rfl) rfl rfl ?_
      refine wpR_pass (wantU rfl rfl rfl) rfl rfl ?_
      refine wpR_pass (wantU rfl rfl rfl) rfl rfl ?_
      refine wpR_pass (wantU rfl rfl rfl) rfl rfl ?_
      refine wpR_pass (wantN rfl rfl rfl hc75) rfl rfl ?_
      refine wpR_val (v := (Value.bool true)) (w' := w2) rfl rfl rfl (x_pickT (v := (Value.bool true)) rfl rfl hc75 rfl) ?_
      refine wpR_nil ?_
      exact ⟨true, ⟨rfl, e2, e3, e5, e6, trivial⟩, h, rfl⟩
    · replace h := h.2 hc75
      refine wpR_val (v := (Value.pointer (some ((Addr.mk b9 0 none).add 2)))) (w' := w2) (wantG rfl rfl rfl hc75) rfl rfl (x_fieldAddr rfl e2 FA_24_2) ?_
      obtain ⟨x76, q76, h⟩ := h
      refine wpR_val (v := (Value.int .i64 x76)) (w' := w2) (wantG rfl rfl rfl hc75) rfl rfl (x_load1 rfl rfl SH_3 q76) ?_
      refine wpR_val (v := (Value.bool (!decide (x76 = 0)))) (w' := w2) (wantG rfl rfl rfl hc75) rfl rfl (x_neq rfl rfl rfl) ?_
      refine wpR_val (v := (Value.bool (!decide (x76 = 0)))) (w' := w2) (wantG rfl rfl rfl hc75) rfl rfl (x_move (v := (Value.bool (!decide (x76 = 0)))) rfl rfl) ?_
      obtain ⟨J77, h, hk⟩ := h
      refine wpR_joinJ 6 (fun x ρ => ρ 106 = Value.bool x ∧ ρ 2 = (Value.pointer (some (Addr.mk b9 0 none))) ∧ ρ 3 = (Value.pointer (some (Addr.mk b10 0 none))) ∧ ρ 5 = (Value.bool c47) ∧ ρ 6 = (Value.bool c68) ∧ ρ 96 = (Value.bool c73) ∧ True) (fun x w => J77 x ∧ w2 = w) ?_ ?_
      · clear hk
        rcases Bool.eq_false_or_eq_true (!decide (x76 = 0)) with hc78 | hc78
        · replace h := h.1 hc78
          refine wpR_val (v := (Value.pointer (some ((Addr.mk b9 0 none).add 2)))) (w' := w2) (wantG rfl rfl rfl hc78) rfl rfl (x_fieldAddr rfl e2 FA_24_2) ?_
          obtain ⟨x79, q79, h⟩ := h
          refine wpR_val (v := (Value.int .i64 x79)) (w' := w2) (wantG rfl rfl rfl hc78) rfl rfl (x_load1 rfl rfl SH_3 q79) ?_
          refine wpR_val (v := (Value.pointer (some ((Addr.mk b10 0 none).add 2)))) (w' := w2) (wantG rfl rfl rfl hc78) rfl rfl (x_fieldAddr rfl e3 FA_24_2) ?_
          obtain ⟨x80, q80, h⟩ := h
          refine wpR_val (v := (Value.int .i64 x80)) (w' := w2) (wantG rfl rfl rfl hc78) rfl rfl (x_load1 rfl rfl SH_3 q80) ?_
          refine wpR_val (v := (Value.bool (decide (x79 ≤ x80)))) (w' := w2) (wantG rfl rfl rfl hc78) rfl rfl (x_leq rfl rfl rfl) ?_
          refine wpR_val (v := (Value.bool (decide (x79 ≤ x80)))) (w' := w2) (wantG rfl rfl rfl hc75) rfl rfl (x_pickT (v := (Value.bool (decide (x79 ≤ x80)))) rfl rfl hc78 rfl) ?_
          refine wpR_nil ?_
          exact ⟨decide (x79 ≤ x80), ⟨rfl, e2, e3, e5, e6, rfl, trivial⟩, h, rfl⟩
        · replace h := h.2 hc78
          refine wpR_pass (wantN rfl rfl rfl hc78) rfl rfl ?_
          refine wpR_pass (wantN rfl rfl rfl hc78) rfl rfl ?_
          refine wpR_pass (wantN rfl rfl rfl hc78) rfl rfl ?_
          refine wpR_pass (wantN rfl rfl rfl hc78) rfl rfl ?_
          refine wpR_pass (wantN rfl rfl rfl hc78) rfl rfl ?_
          refine wpR_val (v := (Value.bool false)) (w' := w2) (wantG rfl rfl rfl hc75) rfl rfl (x_pickF (v := (Value.bool false)) rfl rfl hc78 rfl) ?_
          refine wpR_nil ?_
          exact ⟨false, ⟨rfl, e2, e3, e5, e6, rfl, trivial⟩, h, rfl⟩
      clear h
      rintro c81 ρ wj ⟨e106, e2, e3, e5, e6, e96, -⟩ ⟨h, rfl⟩
      replace h := hk c81 h
      clear hk
      refine wpR_val (v := (Value.bool c81)) (w' := w2) rfl rfl rfl (x_pickF (v := (Value.bool c81)) rfl e96 hc75 e106) ?_
      refine wpR_nil ?_
      exact ⟨c81, ⟨rfl, e2, e3, e5, e6, trivial⟩, h, rfl⟩
  clear h
  rintro c82 ρ wj ⟨e107, e2, e3, e5, e6, -⟩ ⟨h, rfl⟩
  replace h := hk c82 h
  clear hk
  refine wpR_val (v := (Value.bool c82)) (w' := w2) rfl rfl rfl (x_assign (v := (Value.bool c82)) rfl e107) ?_
  refine wpR_nil ?_
  refine wpC_seq ?_
  refine wpC_cut (fun ρ => ρ 2 = (Value.pointer (some (Addr.mk b9 0 none))) ∧ ρ 3 = (Value.pointer (some (Addr.mk b10 0 none))) ∧ ρ 5 = (Value.bool c47) ∧ ρ 6 = (Value.bool c68) ∧ ρ 7 = (Value.bool c82) ∧ True) ⟨e2, e3, e5, e6, rfl, trivial⟩ ?_
  rintro ρ ⟨e2, e3, e5, e6, e7, -⟩
  refine wpC_region ?_
  refine wpR_val (v := (Value.func (.func 46) #[] (List.toArray [(Value.pointer (some (Addr.mk b10 0 none)))]))) (w' := w2) rfl rfl rfl (x_makeFunc (vs := [(Value.pointer (some (Addr.mk b10 0 none)))]) rfl (mapl_cons e3 mapl_nil)) ?_
  refine wpR_val (v := (Value.func (.func 46) #[] (List.toArray [(Value.pointer (some (Addr.mk b10 0 none)))]))) (w' := w2) rfl rfl rfl (x_assign (v := (Value.func (.func 46) #[] (List.toArray [(Value.pointer (some (Addr.mk b10 0 none)))]))) rfl rfl) ?_
  refine wpR_nil ?_
  refine wpC_seq ?_
  refine wpC_cut (fun ρ => ρ 2 = (Value.pointer (some (Addr.mk b9 0 none))) ∧ ρ 5 = (Value.bool c47) ∧ ρ 6 = (Value.bool c68) ∧ ρ 7 = (Value.bool c82) ∧ ρ 8 = (Value.func (.func 46) #[] (List.toArray [(Value.pointer (some (Addr.mk b10 0 none)))])) ∧ True) ⟨e2, e5, e6, e7, rfl, trivial⟩ ?_
  rintro ρ ⟨e2, e5, e6, e7, e8, -⟩
  refine wpC_region ?_
  refine wpR_val (v := (Value.bool c47)) (w' := w2) rfl rfl rfl (x_move (v := (Value.bool c47)) rfl e5) ?_
  refine wpR_val (v := (Value.bool c47)) (w' := w2) rfl rfl rfl (x_move (v := (Value.bool c47)) rfl rfl) ?_
  refine wpR_joinJ 2 (fun (_ : Unit) ρ => ρ 112 = Value.bool (c47 && c68) ∧ ρ 2 = (Value.pointer (some (Addr.mk b9 0 none))) ∧ ρ 7 = (Value.bool c82) ∧ ρ 8 = (Value.func (.func 46) #[] (List.toArray [(Value.pointer (some (Addr.mk b10 0 none)))])) ∧ True) (fun _ w => w2 = w) ?_ ?_
  · clear h
    rcases Bool.eq_false_or_eq_true (c47) with hc84 | hc84
    · skip
      refine wpR_val (v := (Value.bool c68)) (w' := w2) (wantG rfl rfl rfl hc84) rfl rfl (x_move (v := (Value.bool c68)) rfl e6) ?_
      refine wpR_val (v := (Value.bool c68)) (w' := w2) rfl rfl rfl (x_pickT (v := (Value.bool c68)) rfl rfl hc84 rfl) ?_
      refine wpR_nil ?_
      exact ⟨(), ⟨(by rw [hc84]; rfl), e2, e7, e8, trivial⟩, rfl⟩
    · skip
      refine wpR_pass (wantN rfl rfl rfl hc84) rfl rfl ?_
      refine wpR_val (v := (Value.bool false)) (w' := w2) rfl rfl rfl (x_pickF (v := (Value.bool false)) rfl rfl hc84 rfl) ?_
      refine wpR_nil ?_
      exact ⟨(), ⟨(by rw [hc84]; rfl), e2, e7, e8, trivial⟩, rfl⟩
  rintro _ ρ wj ⟨e112, e2, e7, e8, -⟩ rfl
  refine wpR_val (v := (Value.bool (c47 && c68))) (w' := w2) rfl rfl rfl (x_move (v := (Value.bool (c47 && c68))) rfl e112) ?_
  refine wpR_joinJ 2 (fun (_ : Unit) ρ => ρ 115 = Value.bool ((c47 && c68) && c82) ∧ ρ 2 = (Value.pointer (some (Addr.mk b9 0 none))) ∧ ρ 8 = (Value.func (.func 46) #[] (List.toArray [(Value.pointer (some (Addr.mk b10 0 none)))])) ∧ True) (fun _ w => w2 = w) ?_ ?_
  · clear h
    rcases Bool.eq_false_or_eq_true (c47 && c68) with hc86 | hc86
    · skip
      refine wpR_val (v := (Value.bool c82)) (w' := w2) (wantG rfl rfl rfl hc86) rfl rfl (x_move (v := (Value.bool c82)) rfl e7) ?_
      refine wpR_val (v := (Value.bool c82)) (w' := w2) rfl rfl rfl (x_pickT (v := (Value.bool c82)) rfl rfl hc86 rfl) ?_
      refine wpR_nil ?_
      exact ⟨(), ⟨(by rw [hc86]; rfl), e2, e8, trivial⟩, rfl⟩
    · skip
      refine wpR_pass (wantN rfl rfl rfl hc86) rfl rfl ?_
      refine wpR_val (v := (Value.bool false)) (w' := w2) rfl rfl rfl (x_pickF (v := (Value.bool false)) rfl rfl hc86 rfl) ?_
      refine wpR_nil ?_
      exact ⟨(), ⟨(by rw [hc86]; rfl), e2, e8, trivial⟩, rfl⟩
  rintro _ ρ wj ⟨e115, e2, e8, -⟩ rfl
  refine wpR_val (v := (Value.bool ((c47 && c68) && c82))) (w' := w2) rfl rfl rfl (x_move (v := (Value.bool ((c47 && c68) && c82))) rfl e115) ?_
  obtain ⟨J87, h, hk⟩ := h
  refine wpR_joinJ 6 (fun x ρ => ρ 122 = Value.bool x ∧ True) (J87) ?_ ?_
  · clear hk
    rcases Bool.eq_false_or_eq_true ((c47 && c68) && c82) with hc88 | hc88
    · replace h := h.1 hc88
      refine wpR_val (v := (Value.pointer (some ((Addr.mk b9 0 none).add 12)))) (w' := w2) (wantG rfl rfl rfl hc88) rfl rfl (x_fieldAddr rfl e2 FA_24_12) ?_
      obtain ⟨x89, q89, h⟩ := h
      refine wpR_val (v := (Sl.v x89)) (w' := w2) (wantG rfl rfl rfl hc88) rfl rfl (x_load1 rfl rfl SH_22 q89) ?_
      refine wpR_val (v := (Value.func (.func 46) #[] (List.toArray [(Value.pointer (some (Addr.mk b10 0 none)))]))) (w' := w2) (wantG rfl rfl rfl hc88) rfl rfl (x_move (v := (Value.func (.func 46) #[] (List.toArray [(Value.pointer (some (Addr.mk b10 0 none)))]))) rfl e8) ?_
      refine wpR_enter (wantG rfl rfl rfl hc88) rfl rfl (x_call (vs := [(Sl.v x89), (Value.func (.func 46) #[] (List.toArray [(Value.pointer (some (Addr.mk b10 0 none)))]))]) rfl rfl (mapl_cons rfl (mapl_cons rfl mapl_nil)) Try.func47 NN_47 NB_47) (Calls.mono h ?_)
      rintro _ w3 ⟨r90, rfl, h⟩
      refine ⟨_, rfl, ?_⟩
      refine wpR_val (v := (Value.bool (!r90))) (w' := w3) (wantG rfl rfl rfl hc88) rfl rfl (x_not rfl rfl) ?_
      refine wpR_val (v := (Value.bool (!r90))) (w' := w3) rfl rfl rfl (x_pickT (v := (Value.bool (!r90))) rfl rfl hc88 rfl) ?_
      refine wpR_nil ?_
      exact ⟨!r90, ⟨rfl, trivial⟩, h⟩
    · replace h := h.2 hc88
      refine wpR_pass (wantN rfl rfl rfl hc88) rfl rfl ?_
      refine wpR_pass (wantN rfl rfl rfl hc88) rfl rfl ?_
      refine wpR_pass (wantN rfl rfl rfl hc88) rfl rfl ?_
      refine wpR_pass (wantN rfl rfl rfl hc88) rfl rfl ?_
      refine wpR_pass (wantN rfl rfl rfl hc88) rfl rfl ?_
      refine wpR_val (v := (Value.bool false)) (w' := w2) rfl rfl rfl (x_pickF (v := (Value.bool false)) rfl rfl hc88 rfl) ?_
      refine wpR_nil ?_
      exact ⟨false, ⟨rfl, trivial⟩, h⟩
  clear h
  rintro c91 ρ w4 ⟨e122, -⟩ h
  replace h := hk c91 w4 h
  clear hk
  refine wpR_val (v := (Value.bool c91)) (w' := w4) rfl rfl rfl (x_assign (v := (Value.bool c91)) rfl e122) ?_
  refine wpR_nil ?_
  refine wpC_ret ?_
  exact ⟨.inl rfl, fun a ha => ⟨_, results_rep1 rfl ha rfl, c91, rfl, h⟩⟩

/-- profile.longer -/
def F44 (p0_0 : ByteArray) (p0_1 : Int) (p0_2 : Int) (p0_3 : Int) (p0_4 : Bool) (p0_5 : Int) (p0_6 : Bool) (p0_7 : Bool) (p0_8 : Int) (p0_9 : Int) (p0_10 : Int) (p0_11 : Int) (p0_12 : Sl) (p0_13 : Int) (p0_14 : Int) (p0_15 : Int) (p0_16 : Int) (p0_17 : Bool) (p0_18 : Int) (p0_19 : Int) (p0_20 : Int) (p0_21 : Int) (p1_0 : ByteArray) (p1_1 : Int) (p1_2 : Int) (p1_3 : Int) (p1_4 : Bool) (p1_5 : Int) (p1_6 : Bool) (p1_7 : Bool) (p1_8 : Int) (p1_9 : Int) (p1_10 : Int) (p1_11 : Int) (p1_12 : Sl) (p1_13 : Int) (p1_14 : Int) (p1_15 : Int) (p1_16 : Int) (p1_17 : Bool) (p1_18 : Int) (p1_19 : Int) (p1_20 : Int) (p1_21 : Int) (w0 : World) (K : Int → World → Prop) : Prop :=
  nw 24 (A23 p0_0 p0_1 p0_2 p0_3 p0_4 p0_5 p0_6 p0_7 p0_8 p0_9 p0_10 p0_11 p0_12 p0_13 p0_14 p0_15 p0_16 p0_17 p0_18 p0_19 p0_20 p0_21) w0 fun b9 w1 =>
  nw 24 (A23 p1_0 p1_1 p1_2 p1_3 p1_4 p1_5 p1_6 p1_7 p1_8 p1_9 p1_10 p1_11 p1_12 p1_13 p1_14 p1_15 p1_16 p1_17 p1_18 p1_19 p1_20 p1_21) w1 fun b10 w2 =>
  ld (Value.int .i64) ((Addr.mk b9 0 none).add 1) w2 fun x11 =>
  jp (fun J12 => cnd (!decide (x11 = 2))
    (
    ld (Value.int .i64) ((Addr.mk b10 0 none).add 1) w2 fun x14 =>
    J12 (!decide (x14 = 2))
    )
    (
    J12 false
    ))
  fun c15 =>
  cnd (c15)
    (
    K 0 w2
    )
    (
    ld (Value.int .i64) ((Addr.mk b10 0 none).add 1) w2 fun x17 =>
    cnd (!decide (x17 = 2))
      (
      ld (Value.int .i64) ((Addr.mk b9 0 none).add 2) w2 fun x19 =>
      K x19 w2
      )
      (
      ld (Value.int .i64) ((Addr.mk b9 0 none).add 1) w2 fun x20 =>
      cnd (!decide (x20 = 2))
        (
        ld (Value.int .i64) ((Addr.mk b10 0 none).add 2) w2 fun x22 =>
        K x22 w2
        )
        (
        ld (Value.int .i64) ((Addr.mk b9 0 none).add 2) w2 fun x23 =>
        jp (fun J24 => cnd (decide (x23 = 0))
          (
          J24 true
          )
          (
          ld (Value.int .i64) ((Addr.mk b10 0 none).add 2) w2 fun x26 =>
          J24 (decide (x26 = 0))
          ))
        fun c27 =>
        cnd (c27)
          (
          K 0 w2
          )
          (
          ld (Value.int .i64) ((Addr.mk b9 0 none).add 2) w2 fun x29 =>
          ld (Value.int .i64) ((Addr.mk b10 0 none).add 2) w2 fun x30 =>
          K (max x29 x30) w2
          )
        )
      )
    )
set_option maxRecDepth 100000 in
theorem D44 (p0_0 : ByteArray) (p0_1 : Int) (p0_2 : Int) (p0_3 : Int) (p0_4 : Bool) (p0_5 : Int) (p0_6 : Bool) (p0_7 : Bool) (p0_8 : Int) (p0_9 : Int) (p0_10 : Int) (p0_11 : Int) (p0_12 : Sl) (p0_13 : Int) (p0_14 : Int) (p0_15 : Int) (p0_16 : Int) (p0_17 : Bool) (p0_18 : Int) (p0_19 : Int) (p0_20 : Int) (p0_21 : Int) (p1_0 : ByteArray) (p1_1 : Int) (p1_2 : Int) (p1_3 : Int) (p1_4 : Bool) (p1_5 : Int) (p1_6 : Bool) (p1_7 : Bool) (p1_8 : Int) (p1_9 : Int) (p1_10 : Int) (p1_11 : Int) (p1_12 : Sl) (p1_13 : Int) (p1_14 : Int) (p1_15 : Int) (p1_16 : Int) (p1_17 : Bool) (p1_18 : Int) (p1_19 : Int) (p1_20 : Int) (p1_21 : Int) (w0 : World) (K : Int → World → Prop) (h : F44 p0_0 p0_1 p0_2 p0_3 p0_4 p0_5 p0_6 p0_7 p0_8 p0_9 p0_10 p0_11 p0_12 p0_13 p0_14 p0_15 p0_16 p0_17 p0_18 p0_19 p0_20 p0_21 p1_0 p1_1 p1_2 p1_3 p1_4 p1_5 p1_6 p1_7 p1_8 p1_9 p1_10 p1_11 p1_12 p1_13 p1_14 p1_15 p1_16 p1_17 p1_18 p1_19 p1_20 p1_21 w0 K) : callC Try.prog 44 #[(V23 p0_0 p0_1 p0_2 p0_3 p0_4 p0_5 p0_6 p0_7 p0_8 p0_9 p0_10 p0_11 p0_12 p0_13 p0_14 p0_15 p0_16 p0_17 p0_18 p0_19 p0_20 p0_21), (V23 p1_0 p1_1 p1_2 p1_3 p1_4 p1_5 p1_6 p1_7 p1_8 p1_9 p1_10 p1_11 p1_12 p1_13 p1_14 p1_15 p1_16 p1_17 p1_18 p1_19 p1_20 p1_21)] (fun (r : Int) => (Value.int .i64 r)) w0 K := by
  unfold F44 at h
  refine calls_of_wpC Try.func44 rfl 40 rfl (by simp) ?_
  intro ρ hρ
  have e0 : ρ 0 = (V23 p0_0 p0_1 p0_2 p0_3 p0_4 p0_5 p0_6 p0_7 p0_8 p0_9 p0_10 p0_11 p0_12 p0_13 p0_14 p0_15 p0_16 p0_17 p0_18 p0_19 p0_20 p0_21) := hρ 0
  have e1 : ρ 1 = (V23 p1_0 p1_1 p1_2 p1_3 p1_4 p1_5 p1_6 p1_7 p1_8 p1_9 p1_10 p1_11 p1_12 p1_13 p1_14 p1_15 p1_16 p1_17 p1_18 p1_19 p1_20 p1_21) := hρ 1
  clear hρ
  refine wpC_seq ?_
  refine wpC_region ?_
  obtain ⟨b9, hb9⟩ : ∃ u, u = w0.heap.size := ⟨_, rfl⟩
  obtain ⟨w1, hw9⟩ : ∃ u, u = w0.alloc (.cells (A23 p0_0 p0_1 p0_2 p0_3 p0_4 p0_5 p0_6 p0_7 p0_8 p0_9 p0_10 p0_11 p0_12 p0_13 p0_14 p0_15 p0_16 p0_17 p0_18 p0_19 p0_20 p0_21) 24) := ⟨_, rfl⟩
  replace h := h b9 w1 hb9 hw9
  refine wpR_val (v := (Value.pointer (some (Addr.mk b9 0 none)))) (w' := w1) rfl rfl rfl ((x_box (v := (V23 p0_0 p0_1 p0_2 p0_3 p0_4 p0_5 p0_6 p0_7 p0_8 p0_9 p0_10 p0_11 p0_12 p0_13 p0_14 p0_15 p0_16 p0_17 p0_18 p0_19 p0_20 p0_21)) rfl e0).trans (by rw [hb9, hw9]; rfl)) ?_
  obtain ⟨b10, hb10⟩ : ∃ u, u = w1.heap.size := ⟨_, rfl⟩
  obtain ⟨w2, hw10⟩ : ∃ u, u = w1.alloc (.cells (A23 p1_0 p1_1 p1_2 p1_3 p1_4 p1_5 p1_6 p1_7 p1_8 p1_9 p1_10 p1_11 p1_12 p1_13 p1_14 p1_15 p1_16 p1_17 p1_18 p1_19 p1_20 p1_21) 24) := ⟨_, rfl⟩
  replace h := h b10 w2 hb10 hw10
  refine wpR_val (v := (Value.pointer (some (Addr.mk b10 0 none)))) (w' := w2) rfl rfl rfl ((x_box (v := (V23 p1_0 p1_1 p1_2 p1_3 p1_4 p1_5 p1_6 p1_7 p1_8 p1_9 p1_10 p1_11 p1_12 p1_13 p1_14 p1_15 p1_16 p1_17 p1_18 p1_19 p1_20 p1_21)) rfl e1).trans (by rw [hb10, hw10]; rfl)) ?_
  refine wpR_val (v := (Value.int .i64 0)) (w' := w2) rfl rfl rfl (x_assign (v := (Value.int .i64 0)) rfl rfl) ?_
  refine wpR_nil ?_
  refine wpC_seq ?_
  refine wpC_block ?_
  refine wpC_seq ?_
  refine wpC_cut (fun ρ => ρ 2 = (Value.pointer (some (Addr.mk b9 0 none))) ∧ ρ 3 = (Value.pointer (some (Addr.mk b10 0 none))) ∧ True) ⟨rfl, rfl, trivial⟩ ?_
  rintro ρ ⟨e2, e3, -⟩
  refine wpC_region ?_
  refine wpR_val (v := (Value.pointer (some ((Addr.mk b9 0 none).add 1)))) (w' := w2) rfl rfl rfl (x_fieldAddr rfl e2 FA_24_1) ?_
  obtain ⟨x11, q11, h⟩ := h
  refine wpR_val (v := (Value.int .i64 x11)) (w' := w2) rfl rfl rfl (x_load1 rfl rfl SH_3 q11) ?_
  refine wpR_val (v := (Value.bool (!decide (x11 = 2)))) (w' := w2) rfl rfl rfl (x_neq rfl rfl rfl) ?_
  refine wpR_val (v := (Value.bool (!decide (x11 = 2)))) (w' := w2) rfl rfl rfl (x_move (v := (Value.bool (!decide (x11 = 2)))) rfl rfl) ?_
  obtain ⟨J12, h, hk⟩ := h
  refine wpR_joinJ 4 (fun x ρ => ρ 13 = Value.bool x ∧ ρ 2 = (Value.pointer (some (Addr.mk b9 0 none))) ∧ ρ 3 = (Value.pointer (some (Addr.mk b10 0 none))) ∧ True) (fun x w => J12 x ∧ w2 = w) ?_ ?_
  · clear hk
    rcases Bool.eq_false_or_eq_true (!decide (x11 = 2)) with hc13 | hc13
    · replace h := h.1 hc13
      refine wpR_val (v := (Value.pointer (some ((Addr.mk b10 0 none).add 1)))) (w' := w2) (wantG rfl rfl rfl hc13) rfl rfl (x_fieldAddr rfl e3 FA_24_1) ?_
      obtain ⟨x14, q14, h⟩ := h
      refine wpR_val (v := (Value.int .i64 x14)) (w' := w2) (wantG rfl rfl rfl hc13) rfl rfl (x_load1 rfl rfl SH_3 q14) ?_
      refine wpR_val (v := (Value.bool (!decide (x14 = 2)))) (w' := w2) (wantG rfl rfl rfl hc13) rfl rfl (x_neq rfl rfl rfl) ?_
      refine wpR_val (v := (Value.bool (!decide (x14 = 2)))) (w' := w2) rfl rfl rfl (x_pickT (v := (Value.bool (!decide (x14 = 2)))) rfl rfl hc13 rfl) ?_
      refine wpR_nil ?_
      exact ⟨!decide (x14 = 2), ⟨rfl, e2, e3, trivial⟩, h, rfl⟩
    · replace h := h.2 hc13
      refine wpR_pass (wantN rfl rfl rfl hc13) rfl rfl ?_
      refine wpR_pass (wantN rfl rfl rfl hc13) rfl rfl ?_
      refine wpR_pass (wantN rfl rfl rfl hc13) rfl rfl ?_
      refine wpR_val (v := (Value.bool false)) (w' := w2) rfl rfl rfl (x_pickF (v := (Value.bool false)) rfl rfl hc13 rfl) ?_
      refine wpR_nil ?_
      exact ⟨false, ⟨rfl, e2, e3, trivial⟩, h, rfl⟩
  clear h
  rintro c15 ρ wj ⟨e13, e2, e3, -⟩ ⟨h, rfl⟩
  replace h := hk c15 h
  clear hk
  refine wpR_val (v := (Value.bool c15)) (w' := w2) rfl rfl rfl (x_assign (v := (Value.bool c15)) rfl e13) ?_
  refine wpR_nil ?_
  refine wpC_cond (b := c15) rfl (fun hc16 => ?_) (fun hc16 => ?_)
  · replace h := h.1 hc16
    refine wpC_seq ?_
    refine wpC_cut (fun ρ => True) trivial ?_
    rintro ρ -
    refine wpC_region ?_
    refine wpR_val (v := (Value.int .i64 0)) (w' := w2) rfl rfl rfl (x_assign (v := (Value.int .i64 0)) rfl rfl) ?_
    refine wpR_nil ?_
    refine wpC_ret ?_
    exact ⟨.inl rfl, fun a ha => ⟨_, results_rep1 rfl ha rfl, 0, rfl, h⟩⟩
  · replace h := h.2 hc16
    refine wpC_seq ?_
    refine wpC_cut (fun ρ => ρ 2 = (Value.pointer (some (Addr.mk b9 0 none))) ∧ ρ 3 = (Value.pointer (some (Addr.mk b10 0 none))) ∧ True) ⟨e2, e3, trivial⟩ ?_
    rintro ρ ⟨e2, e3, -⟩
    refine wpC_region ?_
    refine wpR_val (v := (Value.pointer (some ((Addr.mk b10 0 none).add 1)))) (w' := w2) rfl rfl rfl (x_fieldAddr rfl e3 FA_24_1) ?_
    obtain ⟨x17, q17, h⟩ := h
    refine wpR_val (v := (Value.int .i64 x17)) (w' := w2) rfl rfl rfl (x_load1 rfl rfl SH_3 q17) ?_
    refine wpR_val (v := (Value.bool (!decide (x17 = 2)))) (w' := w2) rfl rfl rfl (x_neq rfl rfl rfl) ?_
    refine wpR_val (v := (Value.bool (!decide (x17 = 2)))) (w' := w2) rfl rfl rfl (x_assign (v := (Value.bool (!decide (x17 = 2)))) rfl rfl) ?_
    refine wpR_nil ?_
    refine wpC_cond (b := !decide (x17 = 2)) rfl (fun hc18 => ?_) (fun hc18 => ?_)
    · replace h := h.1 hc18
      refine wpC_seq ?_
      refine wpC_cut (fun ρ => ρ 2 = (Value.pointer (some (Addr.mk b9 0 none))) ∧ True) ⟨e2, trivial⟩ ?_
      rintro ρ ⟨e2, -⟩
      refine wpC_region ?_
      refine wpR_val (v := (Value.pointer (some ((Addr.mk b9 0 none).add 2)))) (w' := w2) rfl rfl rfl (x_fieldAddr rfl e2 FA_24_2) ?_
      obtain ⟨x19, q19, h⟩ := h
      refine wpR_val (v := (Value.int .i64 x19)) (w' := w2) rfl rfl rfl (x_load1 rfl rfl SH_3 q19) ?_
      refine wpR_val (v := (Value.int .i64 x19)) (w' := w2) rfl rfl rfl (x_assign (v := (Value.int .i64 x19)) rfl rfl) ?_
      refine wpR_nil ?_
      refine wpC_ret ?_
      exact ⟨.inl rfl, fun a ha => ⟨_, results_rep1 rfl ha rfl, x19, rfl, h⟩⟩
    · replace h := h.2 hc18
      refine wpC_seq ?_
      refine wpC_cut (fun ρ => ρ 2 = (Value.pointer (some (Addr.mk b9 0 none))) ∧ ρ 3 = (Value.pointer (some (Addr.mk b10 0 none))) ∧ True) ⟨e2, e3, trivial⟩ ?_
      rintro ρ ⟨e2, e3, -⟩
      refine wpC_region ?_
      refine wpR_val (v := (Value.pointer (some ((Addr.mk b9 0 none).add 1)))) (w' := w2) rfl rfl rfl (x_fieldAddr rfl e2 FA_24_1) ?_
      obtain ⟨x20, q20, h⟩ := h
      refine wpR_val (v := (Value.int .i64 x20)) (w' := w2) rfl rfl rfl (x_load1 rfl rfl SH_3 q20) ?_
      refine wpR_val (v := (Value.bool (!decide (x20 = 2)))) (w' := w2) rfl rfl rfl (x_neq rfl rfl rfl) ?_
      refine wpR_val (v := (Value.bool (!decide (x20 = 2)))) (w' := w2) rfl rfl rfl (x_assign (v := (Value.bool (!decide (x20 = 2)))) rfl rfl) ?_
      refine wpR_nil ?_
      refine wpC_cond (b := !decide (x20 = 2)) rfl (fun hc21 => ?_) (fun hc21 => ?_)
      · replace h := h.1 hc21
        refine wpC_seq ?_
        refine wpC_cut (fun ρ => ρ 3 = (Value.pointer (some (Addr.mk b10 0 none))) ∧ True) ⟨e3, trivial⟩ ?_
        rintro ρ ⟨e3, -⟩
        refine wpC_region ?_
        refine wpR_val (v := (Value.pointer (some ((Addr.mk b10 0 none).add 2)))) (w' := w2) rfl rfl rfl (x_fieldAddr rfl e3 FA_24_2) ?_
        obtain ⟨x22, q22, h⟩ := h
        refine wpR_val (v := (Value.int .i64 x22)) (w' := w2) rfl rfl rfl (x_load1 rfl rfl SH_3 q22) ?_
        refine wpR_val (v := (Value.int .i64 x22)) (w' := w2) rfl rfl rfl (x_assign (v := (Value.int .i64 x22)) rfl rfl) ?_
        refine wpR_nil ?_
        refine wpC_ret ?_
        exact ⟨.inl rfl, fun a ha => ⟨_, results_rep1 rfl ha rfl, x22, rfl, h⟩⟩
      · replace h := h.2 hc21
        refine wpC_seq ?_
        refine wpC_cut (fun ρ => ρ 2 = (Value.pointer (some (Addr.mk b9 0 none))) ∧ ρ 3 = (Value.pointer (some (Addr.mk b10 0 none))) ∧ True) ⟨e2, e3, trivial⟩ ?_
        rintro ρ ⟨e2, e3, -⟩
        refine wpC_region ?_
        refine wpR_val (v := (Value.pointer (some ((Addr.mk b9 0 none).add 2)))) (w' := w2) rfl rfl rfl (x_fieldAddr rfl e2 FA_24_2) ?_
        obtain ⟨x23, q23, h⟩ := h
        refine wpR_val (v := (Value.int .i64 x23)) (w' := w2) rfl rfl rfl (x_load1 rfl rfl SH_3 q23) ?_
        refine wpR_val (v := (Value.bool (decide (x23 = 0)))) (w' := w2) rfl rfl rfl (x_eql rfl rfl rfl) ?_
        refine wpR_val (v := (Value.bool (decide (x23 = 0)))) (w' := w2) rfl rfl rfl (x_move (v := (Value.bool (decide (x23 = 0)))) rfl rfl) ?_
        obtain ⟨J24, h, hk⟩ := h
        refine wpR_joinJ 4 (fun x ρ => ρ 34 = Value.bool x ∧ ρ 2 = (Value.pointer (some (Addr.mk b9 0 none))) ∧ ρ 3 = (Value.pointer (some (Addr.mk b10 0 none))) ∧ True) (fun x w => J24 x ∧ w2 = w) ?_ ?_
        · clear hk
          rcases Bool.eq_false_or_eq_true (decide (x23 = 0)) with hc25 | hc25
          · replace h := h.1 hc25
            refine wpR_pass (wantN rfl rfl rfl hc25) rfl rfl ?_
            refine wpR_pass (wantN rfl rfl rfl hc25) rfl rfl ?_
            refine wpR_pass (wantN rfl rfl rfl hc25) rfl rfl ?_
            refine wpR_val (v := (Value.bool true)) (w' := w2) rfl rfl rfl (x_pickT (v := (Value.bool true)) rfl rfl hc25 rfl) ?_
            refine wpR_nil ?_
            exact ⟨true, ⟨rfl, e2, e3, trivial⟩, h, rfl⟩
          · replace h := h.2 hc25
            refine wpR_val (v := (Value.pointer (some ((Addr.mk b10 0 none).add 2)))) (w' := w2) (wantG rfl rfl rfl hc25) rfl rfl (x_fieldAddr rfl e3 FA_24_2) ?_
            obtain ⟨x26, q26, h⟩ := h
            refine wpR_val (v := (Value.int .i64 x26)) (w' := w2) (wantG rfl rfl rfl hc25) rfl rfl (x_load1 rfl rfl SH_3 q26) ?_
            refine wpR_val (v := (Value.bool (decide (x26 = 0)))) (w' := w2) (wantG rfl rfl rfl hc25) rfl rfl (x_eql rfl rfl rfl) ?_
            refine wpR_val (v := (Value.bool (decide (x26 = 0)))) (w' := w2) rfl rfl rfl (x_pickF (v := (Value.bool (decide (x26 = 0)))) rfl rfl hc25 rfl) ?_
            refine wpR_nil ?_
            exact ⟨decide (x26 = 0), ⟨rfl, e2, e3, trivial⟩, h, rfl⟩
        clear h
        rintro c27 ρ wj ⟨e34, e2, e3, -⟩ ⟨h, rfl⟩
        replace h := hk c27 h
        clear hk
        refine wpR_val (v := (Value.bool c27)) (w' := w2) rfl rfl rfl (x_assign (v := (Value.bool c27)) rfl e34) ?_
        refine wpR_nil ?_
        refine wpC_cond (b := c27) rfl (fun hc28 => ?_) (fun hc28 => ?_)
        · replace h := h.1 hc28
          refine wpC_seq ?_
          refine wpC_cut (fun ρ => True) trivial ?_
          rintro ρ -
          refine wpC_region ?_
          refine wpR_val (v := (Value.int .i64 0)) (w' := w2) rfl rfl rfl (x_assign (v := (Value.int .i64 0)) rfl rfl) ?_
          refine wpR_nil ?_
          refine wpC_ret ?_
          exact ⟨.inl rfl, fun a ha => ⟨_, results_rep1 rfl ha rfl, 0, rfl, h⟩⟩
        · replace h := h.2 hc28
          refine wpC_skip ?_
          refine wpC_seq ?_
          refine wpC_cut (fun ρ => ρ 2 = (Value.pointer (some (Addr.mk b9 0 none))) ∧ ρ 3 = (Value.pointer (some (Addr.mk b10 0 none))) ∧ True) ⟨e2, e3, trivial⟩ ?_
          rintro ρ ⟨e2, e3, -⟩
          refine wpC_region ?_
          refine wpR_val (v := (Value.pointer (some ((Addr.mk b9 0 none).add 2)))) (w' := w2) rfl rfl rfl (x_fieldAddr rfl e2 FA_24_2) ?_
          obtain ⟨x29, q29, h⟩ := h
          refine wpR_val (v := (Value.int .i64 x29)) (w' := w2) rfl rfl rfl (x_load1 rfl rfl SH_3 q29) ?_
          refine wpR_val (v := (Value.pointer (some ((Addr.mk b10 0 none).add 2)))) (w' := w2) rfl rfl rfl (x_fieldAddr rfl e3 FA_24_2) ?_
          obtain ⟨x30, q30, h⟩ := h
          refine wpR_val (v := (Value.int .i64 x30)) (w' := w2) rfl rfl rfl (x_load1 rfl rfl SH_3 q30) ?_
          refine wpR_val (v := (Value.int .i64 (max x29 x30))) (w' := w2) rfl rfl rfl (x_max rfl rfl rfl) ?_
          refine wpR_val (v := (Value.int .i64 (max x29 x30))) (w' := w2) rfl rfl rfl (x_assign (v := (Value.int .i64 (max x29 x30))) rfl rfl) ?_
          refine wpR_nil ?_
          refine wpC_ret ?_
          exact ⟨.inl rfl, fun a ha => ⟨_, results_rep1 rfl ha rfl, max x29 x30, rfl, h⟩⟩

/-- slices.Clone[[]string,string] -/
def F45 (p0 : Sl) (w0 : World) (K : Sl → World → Prop) : Prop :=
  cnd (p0.a.isNone)
    (
    K Sl.nil w0
    )
    (
    nw 9 #[] w0 fun b10 w1 =>
    rn Try.prog (Builtin.append_ #[22, 22] 22 #[Sl.v (⟨some ⟨b10, 0, none⟩, 0, 0⟩ : Sl), Sl.v p0]) Sl.v w1 fun r11 w2 =>
    K r11 w2
    )
set_option maxRecDepth 100000 in
theorem D45 (p0 : Sl) (w0 : World) (K : Sl → World → Prop) (h : F45 p0 w0 K) : callC Try.prog 45 #[(Sl.v p0)] (fun (r : Sl) => (Sl.v r)) w0 K := by
  unfold F45 at h
  refine calls_of_wpC Try.func45 rfl 8 rfl (by simp) ?_
  intro ρ hρ
  have e0 : ρ 0 = (Sl.v p0) := hρ 0
  clear hρ
  refine wpC_seq ?_
  refine wpC_region ?_
  refine wpR_val (v := (Sl.v Sl.nil)) (w' := w0) rfl rfl rfl (x_assign (v := (Sl.v Sl.nil)) rfl rfl) ?_
  refine wpR_nil ?_
  refine wpC_seq ?_
  refine wpC_seq ?_
  refine wpC_cut (fun ρ => ρ 0 = (Sl.v p0) ∧ True) ⟨e0, trivial⟩ ?_
  rintro ρ ⟨e0, -⟩
  refine wpC_region ?_
  refine wpR_val (v := (Sl.v p0)) (w' := w0) rfl rfl rfl (x_move (v := (Sl.v p0)) rfl e0) ?_
  refine wpR_val (v := (Value.bool p0.a.isNone)) (w' := w0) rfl rfl rfl (x_eqlNilS (s := p0) rfl rfl rfl isSliceT_22) ?_
  refine wpR_nil ?_
  refine wpC_cond (b := p0.a.isNone) rfl (fun hc9 => ?_) (fun hc9 => ?_)
  · replace h := h.1 hc9
    refine wpC_seq ?_
    refine wpC_cut (fun ρ => True) trivial ?_
    rintro ρ -
    refine wpC_region ?_
    refine wpR_val (v := (Sl.v Sl.nil)) (w' := w0) rfl rfl rfl (x_assign (v := (Sl.v Sl.nil)) rfl rfl) ?_
    refine wpR_nil ?_
    refine wpC_ret ?_
    exact ⟨.inl rfl, fun a ha => ⟨_, results_rep1 rfl ha rfl, Sl.nil, rfl, h⟩⟩
  · replace h := h.2 hc9
    refine wpC_skip ?_
    refine wpC_seq ?_
    refine wpC_cut (fun ρ => ρ 0 = (Sl.v p0) ∧ True) ⟨e0, trivial⟩ ?_
    rintro ρ ⟨e0, -⟩
    refine wpC_region ?_
    obtain ⟨b10, hb10⟩ : ∃ u, u = w0.heap.size := ⟨_, rfl⟩
    obtain ⟨w1, hw10⟩ : ∃ u, u = w0.alloc (.cells #[] 9) := ⟨_, rfl⟩
    replace h := h b10 w1 hb10 hw10
    refine wpR_val (v := (Sl.v (⟨some ⟨b10, 0, none⟩, 0, 0⟩ : Sl))) (w' := w1) rfl rfl rfl ((x_buildSlice (qs := []) rfl (by rfl) (BS_22_0_ )).trans (by rw [← hb10, ← hw10])) ?_
    refine wpR_val (v := (Sl.v p0)) (w' := w1) rfl rfl rfl (x_move (v := (Sl.v p0)) rfl e0) ?_
    obtain ⟨r11, w2, q11, h⟩ := h
    refine wpR_val (v := (Sl.v r11)) (w' := w2) rfl rfl rfl (x_append (s := (⟨some ⟨b10, 0, none⟩, 0, 0⟩ : Sl)) (u := p0) rfl rfl rfl rfl q11) ?_
    refine wpR_val (v := (Sl.v r11)) (w' := w2) rfl rfl rfl (x_assign (v := (Sl.v r11)) rfl rfl) ?_
    refine wpR_nil ?_
    refine wpC_ret ?_
    exact ⟨.inl rfl, fun a ha => ⟨_, results_rep1 rfl ha rfl, r11, rfl, h⟩⟩

/-- profile.AtMost$1 -/
def F46 (p0 : ByteArray) (c1 : Addr) (w0 : World) (K : Bool → World → Prop) : Prop :=
  ld Sl.v (c1.add 12) w0 fun x9 =>
  callC Try.prog 42 #[(Sl.v x9), (Value.string p0)] (fun (r : Bool) => (Value.bool r)) w0 fun r10 w1 =>
  K (!r10) w1
set_option maxRecDepth 100000 in
theorem D46 (p0 : ByteArray) (c1 : Addr) (w0 : World) (K : Bool → World → Prop) (h : F46 p0 c1 w0 K) : callC Try.prog 46 #[(Value.string p0), (Value.pointer (some c1))] (fun (r : Bool) => (Value.bool r)) w0 K := by
  unfold F46 at h
  refine calls_of_wpC Try.func46 rfl 9 rfl (by simp) ?_
  intro ρ hρ
  have e0 : ρ 0 = (Value.string p0) := hρ 0
  have e1 : ρ 1 = (Value.pointer (some c1)) := hρ 1
  clear hρ
  refine wpC_seq ?_
  refine wpC_region ?_
  refine wpR_val (v := (Value.bool false)) (w' := w0) rfl rfl rfl (x_assign (v := (Value.bool false)) rfl rfl) ?_
  refine wpR_nil ?_
  refine wpC_seq ?_
  refine wpC_cut (fun ρ => ρ 0 = (Value.string p0) ∧ ρ 1 = (Value.pointer (some c1)) ∧ True) ⟨e0, e1, trivial⟩ ?_
  rintro ρ ⟨e0, e1, -⟩
  refine wpC_region ?_
  refine wpR_val (v := (Value.pointer (some (c1.add 12)))) (w' := w0) rfl rfl rfl (x_fieldAddr rfl e1 FA_24_12) ?_
  obtain ⟨x9, q9, h⟩ := h
  refine wpR_val (v := (Sl.v x9)) (w' := w0) rfl rfl rfl (x_load1 rfl rfl SH_22 q9) ?_
  refine wpR_val (v := (Value.string p0)) (w' := w0) rfl rfl rfl (x_move (v := (Value.string p0)) rfl e0) ?_
  refine wpR_enter rfl rfl rfl (x_call (vs := [(Sl.v x9), (Value.string p0)]) rfl rfl (mapl_cons rfl (mapl_cons rfl mapl_nil)) Try.func42 NN_42 NB_42) (Calls.mono h ?_)
  rintro _ w1 ⟨r10, rfl, h⟩
  refine ⟨_, rfl, ?_⟩
  refine wpR_val (v := (Value.bool (!r10))) (w' := w1) rfl rfl rfl (x_not rfl rfl) ?_
  refine wpR_val (v := (Value.bool (!r10))) (w' := w1) rfl rfl rfl (x_assign (v := (Value.bool (!r10))) rfl rfl) ?_
  refine wpR_nil ?_
  refine wpC_ret ?_
  exact ⟨.inl rfl, fun a ha => ⟨_, results_rep1 rfl ha rfl, !r10, rfl, h⟩⟩


end Go.Proofs.Ytnoahloppffndaa
