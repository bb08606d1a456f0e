import Derived.Test.YtgbhghoppjfofaaGreatRows
import Derived.Test.YtgbhghoppjfofaaGreatFs1
import Derived.Test.YtgbhghoppjfofaaGreatDecRaw
namespace Go.Proofs.YtgbhghoppjfofaaGreat
open Go.Dec
set_option maxHeartbeats 400000
set_option maxRecDepth 100000

/-- once.Take -/
def F10 (p0_0 : Int) (p0_1 : Sl) (p1 : Int) (p2 : Int) (w0 : World) (K : (Int × Sl × Bool) → World → Prop) : Prop :=
  nw 38 #[(Value.int .i64 p0_0), (Sl.v p0_1)] w0 fun b9 w1 =>
  nw 38 #[(Value.int .i64 0), (Sl.v Sl.nil)] w1 fun b10 w2 =>
  jn (fun (J12 : (Option Addr) → World → Prop) => tk w2 fun w3 =>
    ld (Value.int .i64) ((Addr.mk b9 0 none).add 0) w3 fun x13 =>
    ld Sl.v ((Addr.mk b9 0 none).add 1) w3 fun x14 =>
    (
      callC Tryz.prog 27 #[(Sl.v x14)] (fun (r : Sl) => (Sl.v r)) w3 fun r15 w4 =>
      (w4.cell? ((Addr.mk b9 0 none).add 0) = some (Value.int .i64 x13)) ∧
      nw 38 #[(Value.int .i64 0), (Sl.v Sl.nil)] w4 fun b16 w5 =>
      (w5.cell? ((Addr.mk b9 0 none).add 0) = some (Value.int .i64 x13)) ∧
      st (Addr.mk b16 0 none) [(Value.int .i64 x13), (Sl.v r15)] w5 fun w6 =>
      J12 (some (Addr.mk b16 0 none)) w6
    )
    ∧
    (
      nw 38 #[(Value.int .i64 0), (Sl.v Sl.nil)] w3 fun b18 w7 =>
      (w7.cell? ((Addr.mk b9 0 none).add 1) = some (Sl.v x14)) ∧
      (w7.cell? ((Addr.mk b9 0 none).add 0) = some (Value.int .i64 x13)) ∧
      callC Tryz.prog 27 #[(Sl.v x14)] (fun (r : Sl) => (Sl.v r)) w7 fun r19 w8 =>
      (w8.cell? ((Addr.mk b9 0 none).add 0) = some (Value.int .i64 x13)) ∧
      st (Addr.mk b18 0 none) [(Value.int .i64 x13), (Sl.v r19)] w8 fun w9 =>
      J12 (some (Addr.mk b18 0 none)) w9
    )
  )
  fun l21 w10 =>
  ld (Value.int .i64) ((Addr.mk b9 0 none).add 0) w10 fun x22 =>
  ld Sl.v ((Addr.mk b9 0 none).add 1) w10 fun x23 =>
  callC Tryz.prog 28 #[(Value.agg #[(Value.int .i64 x22), (Sl.v x23)])] (fun (r : Bool) => (Value.bool r)) w10 fun r24 w11 =>
  jn (fun J31 => cnd ((((!r24) || (decide (p1 < 0))) || (decide (1099511627776 ≤ p1))) || (decide (p2 < 0)))
    (
    J31 true w11
    )
    (
    ld (Value.int .i64) ((Addr.mk b9 0 none).add 0) w11 fun x33 =>
    ld Sl.v ((Addr.mk b9 0 none).add 1) w11 fun x34 =>
    callC Tryz.prog 29 #[(Value.agg #[(Value.int .i64 x33), (Sl.v x34)]), (Value.int .i64 p1)] (fun (r : Bool) => (Value.bool r)) w11 fun r35 w12 =>
    J31 r35 w12
    ))
  fun c36 w13 =>
  cnd (c36)
    (
    nn l21 fun a38 =>
    ld (Value.int .i64) (a38.add 0) w13 fun x39 =>
    ld Sl.v (a38.add 1) w13 fun x40 =>
    st (Addr.mk b10 0 none) [(Value.int .i64 x39), (Sl.v x40)] w13 fun w14 =>
    ld (Value.int .i64) ((Addr.mk b10 0 none).add 0) w14 fun x42 =>
    ld Sl.v ((Addr.mk b10 0 none).add 1) w14 fun x43 =>
    K (x42, x43, false) w14
    )
    (
    ld (Value.int .i64) ((Addr.mk b9 0 none).add 0) w13 fun x44 =>
    ld Sl.v ((Addr.mk b9 0 none).add 1) w13 fun x45 =>
    callC Tryz.prog 30 #[(Value.agg #[(Value.int .i64 x44), (Sl.v x45)]), (Value.int .i64 p1)] (fun (r : Int) => (Value.int .i64 r)) w13 fun r46 w15 =>
    jn (fun J47 => cnd (decide (0 < r46))
      (
      nn l21 fun a49 =>
      ld Sl.v (a49.add 1) w15 fun x50 =>
      ix x50 (IntKind.i64.wrap (r46 - 1)) 2 fun p51 =>
      rn Tryz.prog (Instr.indexAt 83 (Value.pointer (some p51)) (Value.int .i64 1)) (fun a : Addr => Value.pointer (some a)) w15 fun p52 w16 =>
      ld (Value.int .i64) p52 w16 fun x53 =>
      J47 (decide (x53 = p1)) w16
      )
      (
      J47 false w15
      ))
    fun c54 w17 =>
    nn l21 fun a55 =>
    ld Sl.v (a55.add 1) w17 fun x56 =>
    jn (fun J57 => cnd (decide (r46 < (x56.len : Int)))
      (
      nn l21 fun a59 =>
      ld Sl.v (a59.add 1) w17 fun x60 =>
      ix x60 r46 2 fun p61 =>
      rn Tryz.prog (Instr.indexAt 83 (Value.pointer (some p61)) (Value.int .i64 0)) (fun a : Addr => Value.pointer (some a)) w17 fun p62 w18 =>
      ld (Value.int .i64) p62 w18 fun x63 =>
      J57 (decide (x63 = (IntKind.i64.wrap (p1 + 1)))) w18
      )
      (
      J57 false w17
      ))
    fun c64 w19 =>
    jn (fun (J65 : Unit → World → Prop) =>
      cnd (c54 && c64)
        (
        jn (fun (J71 : Unit → World → Prop) => tk w19 fun w21 =>
          nn l21 fun a72 =>
          ld Sl.v (a72.add 1) w21 fun x73 =>
          nn l21 fun a74 =>
          ld Sl.v (a74.add 1) w21 fun x75 =>
          ix x75 r46 2 fun p76 =>
          ix x73 (IntKind.i64.wrap (r46 - 1)) 2 fun p77 =>
          rn Tryz.prog (Instr.indexAt 83 (Value.pointer (some p76)) (Value.int .i64 1)) (fun a : Addr => Value.pointer (some a)) w21 fun p78 w22 =>
          (w22.cell? (a74.add 1) = some (Sl.v x75)) ∧
          (w22.cell? (a72.add 1) = some (Sl.v x73)) ∧
          ld (Value.int .i64) p78 w22 fun x79 =>
          rn Tryz.prog (Instr.indexAt 83 (Value.pointer (some p77)) (Value.int .i64 1)) (fun a : Addr => Value.pointer (some a)) w22 fun p80 w23 =>
          st p80 [(Value.int .i64 x79)] w23 fun w24 =>
          J71 () w24
        )
        fun _l82 w25 =>
        nn l21 fun a83 =>
        ld Sl.v (a83.add 1) w25 fun x84 =>
        callC Tryz.prog 31 #[(Sl.v x84), (Value.int .i64 r46), (Value.int .i64 (IntKind.i64.wrap (r46 + 1)))] (fun (r : Sl) => (Sl.v r)) w25 fun r85 w26 =>
        nn l21 fun a86 =>
        st (a86.add 1) [(Sl.v r85)] w26 fun w27 =>
        J65 () w27
        )
        (
        cnd (c54)
          (
          nn l21 fun a89 =>
          ld Sl.v (a89.add 1) w19 fun x90 =>
          ix x90 (IntKind.i64.wrap (r46 - 1)) 2 fun p91 =>
          rn Tryz.prog (Instr.indexAt 83 (Value.pointer (some p91)) (Value.int .i64 1)) (fun a : Addr => Value.pointer (some a)) w19 fun p92 w28 =>
          st p92 [(Value.int .i64 (IntKind.i64.wrap (p1 + 1)))] w28 fun w29 =>
          J65 () w29
          )
          (
          cnd (c64)
            (
            nn l21 fun a95 =>
            ld Sl.v (a95.add 1) w19 fun x96 =>
            ix x96 r46 2 fun p97 =>
            rn Tryz.prog (Instr.indexAt 83 (Value.pointer (some p97)) (Value.int .i64 0)) (fun a : Addr => Value.pointer (some a)) w19 fun p98 w30 =>
            st p98 [(Value.int .i64 p1)] w30 fun w31 =>
            J65 () w31
            )
            (
            nn l21 fun a100 =>
            ld Sl.v (a100.add 1) w19 fun x101 =>
            nw 83 #[(Value.int .i64 p1), (Value.int .i64 (IntKind.i64.wrap (p1 + 1)))] w19 fun b102 w32 =>
            callC Tryz.prog 32 #[(Sl.v x101), (Value.int .i64 r46), (Sl.v (⟨some ⟨b102, 0, none⟩, 1, 1⟩ : Sl))] (fun (r : Sl) => (Sl.v r)) w32 fun r103 w33 =>
            nn l21 fun a104 =>
            st (a104.add 1) [(Sl.v r103)] w33 fun w34 =>
            J65 () w34
            )
          )
        )
    )
    fun _l66 w20 =>
    lp (fun (next106 : Unit → World → Prop) l106 w35 =>
      jn (fun (J108 : Bool → World → Prop) => tk w35 fun w36 =>
        nn l21 fun a109 =>
        ld Sl.v (a109.add 1) w36 fun x110 =>
        cnd (decide (0 < (x110.len : Int)))
          (
          nn l21 fun a112 =>
          ld Sl.v (a112.add 1) w36 fun x113 =>
          ix x113 0 2 fun p114 =>
          nn l21 fun a115 =>
          ld (Value.int .i64) (a115.add 0) w36 fun x116 =>
          rn Tryz.prog (Instr.indexAt 83 (Value.pointer (some p114)) (Value.int .i64 0)) (fun a : Addr => Value.pointer (some a)) w36 fun p117 w37 =>
          (w37.cell? (a115.add 0) = some (Value.int .i64 x116)) ∧
          (w37.cell? (a112.add 1) = some (Sl.v x113)) ∧
          (w37.cell? (a109.add 1) = some (Sl.v x110)) ∧
          ld (Value.int .i64) p117 w37 fun x118 =>
          cnd (decide (x118 = x116))
            (
            J108 true w37
            )
            (
            nn l21 fun a120 =>
            ld Sl.v (a120.add 1) w37 fun x121 =>
            J108 (decide (p2 < (x121.len : Int))) w37
            )
          )
          (
          J108 false w36
          )
      )
      fun l122 w38 =>
      cnd (l122)
        (
        nn l21 fun a124 =>
        ld Sl.v (a124.add 1) w38 fun x125 =>
        ix x125 0 2 fun p126 =>
        rn Tryz.prog (Instr.indexAt 83 (Value.pointer (some p126)) (Value.int .i64 1)) (fun a : Addr => Value.pointer (some a)) w38 fun p127 w39 =>
        ld (Value.int .i64) p127 w39 fun x128 =>
        nn l21 fun a129 =>
        st (a129.add 0) [(Value.int .i64 x128)] w39 fun w40 =>
        nn l21 fun a131 =>
        ld Sl.v (a131.add 1) w40 fun x132 =>
        rn Tryz.prog (Instr.sliceAt 36 (Sl.v x132) (some (Value.int .i64 1)) none none) (fun (r : Sl) => (Sl.v r)) w40 fun r133 w41 =>
        nn l21 fun a134 =>
        st (a134.add 1) [(Sl.v r133)] w41 fun w42 =>
        next106 () w42
        )
        (
        nn l21 fun a136 =>
        ld (Value.int .i64) (a136.add 0) w38 fun x137 =>
        ld Sl.v (a136.add 1) w38 fun x138 =>
        st (Addr.mk b10 0 none) [(Value.int .i64 x137), (Sl.v x138)] w38 fun w43 =>
        ld (Value.int .i64) ((Addr.mk b10 0 none).add 0) w43 fun x140 =>
        ld Sl.v ((Addr.mk b10 0 none).add 1) w43 fun x141 =>
        K (x140, x141, true) w43
        )
    ) () w20
    )
set_option maxRecDepth 100000 in
theorem D10 (p0_0 : Int) (p0_1 : Sl) (p1 : Int) (p2 : Int) (w0 : World) (K : (Int × Sl × Bool) → World → Prop) (h : F10 p0_0 p0_1 p1 p2 w0 K) : callC Tryz.prog 10 #[(Value.agg #[(Value.int .i64 p0_0), (Sl.v p0_1)]), (Value.int .i64 p1), (Value.int .i64 p2)] (fun (r : Int × Sl × Bool) => (Value.tuple #[(Value.agg #[(Value.int .i64 r.1), (Sl.v r.2.1)]), (Value.bool r.2.2)])) w0 K := by
  unfold F10 at h
  refine calls_of_wpC Tryz.func10 rfl 155 rfl (by simp) ?_
  intro ρ hρ
  have e0 : ρ 0 = (Value.agg #[(Value.int .i64 p0_0), (Sl.v p0_1)]) := hρ 0
  have e1 : ρ 1 = (Value.int .i64 p1) := hρ 1
  have e2 : ρ 2 = (Value.int .i64 p2) := hρ 2
  clear hρ
  refine wpC_seq ?_
  refine wpC_region ?_
  obtain ⟨b9, hb9⟩ : ∃ u, u = w0.heap.size := ⟨_, rfl⟩
  obtain ⟨w1, hw9⟩ : ∃ u, u = w0.alloc (.cells #[(Value.int .i64 p0_0), (Sl.v p0_1)] 38) := ⟨_, rfl⟩
  replace h := h b9 w1 hb9 hw9
  refine rv (Value.pointer (some (Addr.mk b9 0 none))) w1 rfl rfl rfl ((x_box (v := (Value.agg #[(Value.int .i64 p0_0), (Sl.v p0_1)])) rfl e0).trans (by rw [hb9, hw9]; rfl)) ?_
  obtain ⟨b10, hb10⟩ : ∃ u, u = w1.heap.size := ⟨_, rfl⟩
  obtain ⟨w2, hw10⟩ : ∃ u, u = w1.alloc (.cells #[(Value.int .i64 0), (Sl.v Sl.nil)] 38) := ⟨_, rfl⟩
  replace h := h b10 w2 hb10 hw10
  refine rv (Value.pointer (some (Addr.mk b10 0 none))) w2 rfl rfl rfl ((x_alloc rfl ZV_38).trans (by rw [hb10, hw10]; rfl)) ?_
  refine rv (Value.bool false) w2 rfl rfl rfl (x_assign rfl rfl) ?_
  refine wpR_nil ?_
  refine wpC_seq ?_
  refine wpC_cut (fun ρ => ρ 1 = (Value.int .i64 p1) ∧ ρ 2 = (Value.int .i64 p2) ∧ ρ 3 = (Value.pointer (some (Addr.mk b9 0 none))) ∧ ρ 6 = (Value.pointer (some (Addr.mk b10 0 none))) ∧ True) ⟨e1, e2, rfl, rfl, trivial⟩ ?_
  rintro ρ ⟨e1, e2, e3, e6, -⟩
  obtain ⟨J12, h, hk⟩ := h
  refine wpC_drawJ (by kernel_rfl) (fun (x : (Option Addr)) ρ => ρ 8 = (Value.pointer x) ∧ ρ 1 = (Value.int .i64 p1) ∧ ρ 2 = (Value.int .i64 p2) ∧ ρ 3 = (Value.pointer (some (Addr.mk b9 0 none))) ∧ ρ 6 = (Value.pointer (some (Addr.mk b10 0 none))) ∧ True) J12 ?_ ?_
  · clear hk
    unfold tk at h
    generalize w2.drew = w3 at h ⊢
    refine wpD_take (v := (Value.pointer (some ((Addr.mk b9 0 none).add 0)))) 0 (fun _ => True) rfl (by kernel_rfl) (by kernel_rfl) (by kernel_rfl) rfl rfl rfl trivial (fun w _ => (x_fieldAddr rfl e3 FA_38_0)) ?_
    obtain ⟨x13, q13, h⟩ := h
    refine wpD_take (v := (Value.int .i64 x13)) 1 (fun w => w.cell? ((Addr.mk b9 0 none).add 0) = some (Value.int .i64 x13)) rfl (by kernel_rfl) (by kernel_rfl) (by kernel_rfl) rfl rfl rfl q13 (fun w q13 => (x_load1 rfl rfl SH_3 q13)) ?_
    refine wpD_take (v := (Value.pointer (some ((Addr.mk b9 0 none).add 1)))) 2 (fun _ => True) rfl (by kernel_rfl) (by kernel_rfl) (by kernel_rfl) rfl rfl rfl trivial (fun w _ => (x_fieldAddr rfl e3 FA_38_1)) ?_
    obtain ⟨x14, q14, h⟩ := h
    refine wpD_take (v := (Sl.v x14)) 3 (fun w => w.cell? ((Addr.mk b9 0 none).add 1) = some (Sl.v x14)) rfl (by kernel_rfl) (by kernel_rfl) (by kernel_rfl) rfl rfl rfl q14 (fun w q14 => (x_load1 rfl rfl SH_36 q14)) ?_
    refine wpD_all (rs := [4, 6]) (by kernel_rfl) (by simp) (allD_cons ?_ (allD_cons ?_ allD_nil))
    · replace h := h.1
      refine stepD_enterL (L' := [(2, fun _ => True), (1, fun w => w.cell? ((Addr.mk b9 0 none).add 0) = some (Value.int .i64 x13)), (0, fun _ => True)]) rfl rfl rfl rfl (x_call (vs := [(Sl.v x14)]) rfl rfl (mapl_cons rfl mapl_nil) Tryz.func27 NN_27 NB_27) (by kernel_rfl) (Calls.mono h ?_)
      rintro _ w4 ⟨r15, rfl, h⟩
      obtain ⟨o1, h⟩ := h
      refine ⟨_, rfl, (held_cons trivial (held_cons o1 (held_cons trivial held_nil))), ?_⟩
      refine wpD_take (v := (Value.agg #[(Value.int .i64 x13), (Sl.v r15)])) 5 (fun _ => True) rfl (by kernel_rfl) (by kernel_rfl) (by kernel_rfl) rfl rfl rfl trivial (fun w _ => (x_build (qs := [(0, (Value.int .i64 x13)), (1, (Sl.v r15))]) rfl (by rfl) (BD_38_0_1 x13 r15 _))) ?_
      refine wpD_all (rs := [6]) (by kernel_rfl) (by simp) (allD_cons ?_ allD_nil)
      obtain ⟨b16, hb16⟩ : ∃ u, u = w4.heap.size := ⟨_, rfl⟩
      obtain ⟨w5, hw16⟩ : ∃ u, u = w4.alloc (.cells #[(Value.int .i64 0), (Sl.v Sl.nil)] 38) := ⟨_, rfl⟩
      replace h := h b16 w5 hb16 hw16
      obtain ⟨o1, h⟩ := h
      refine stepD_valL (L' := [(5, fun _ => True), (2, fun _ => True), (1, fun w => w.cell? ((Addr.mk b9 0 none).add 0) = some (Value.int .i64 x13)), (0, fun _ => True)]) (v := (Value.pointer (some (Addr.mk b16 0 none)))) (w' := w5) rfl rfl rfl rfl ((x_alloc rfl ZV_38).trans (by rw [hb16, hw16]; rfl)) (by kernel_rfl) (held_cons trivial (held_cons trivial (held_cons o1 (held_cons trivial held_nil)))) ?_
      refine wpD_all (rs := [7]) (by kernel_rfl) (by simp) (allD_cons ?_ allD_nil)
      obtain ⟨q17, h⟩ := h
      obtain ⟨w6, hw17⟩ : ∃ u, u = setAll w5 (Addr.mk b16 0 none) [(Value.int .i64 x13), (Sl.v r15)] 0 := ⟨_, rfl⟩
      replace h := h w6 hw17
      refine stepD_skpL (L' := []) (w' := w6) rfl rfl rfl ((x_store (v := (Value.agg #[(Value.int .i64 x13), (Sl.v r15)])) rfl rfl rfl SZ_38 (ones (by rfl)) q17).trans (by rw [hw17]; rfl)) (by kernel_rfl) held_nil ?_
      exact wpD_done (by kernel_rfl) ⟨some (Addr.mk b16 0 none), ⟨rfl, e1, e2, e3, e6, trivial⟩, h⟩
    · replace h := h.2
      obtain ⟨b18, hb18⟩ : ∃ u, u = w3.heap.size := ⟨_, rfl⟩
      obtain ⟨w7, hw18⟩ : ∃ u, u = w3.alloc (.cells #[(Value.int .i64 0), (Sl.v Sl.nil)] 38) := ⟨_, rfl⟩
      replace h := h b18 w7 hb18 hw18
      obtain ⟨o3, h⟩ := h
      obtain ⟨o1, h⟩ := h
      refine stepD_valL (L' := [(3, fun w => w.cell? ((Addr.mk b9 0 none).add 1) = some (Sl.v x14)), (2, fun _ => True), (1, fun w => w.cell? ((Addr.mk b9 0 none).add 0) = some (Value.int .i64 x13)), (0, fun _ => True)]) (v := (Value.pointer (some (Addr.mk b18 0 none)))) (w' := w7) rfl rfl rfl rfl ((x_alloc rfl ZV_38).trans (by rw [hb18, hw18]; rfl)) (by kernel_rfl) (held_cons o3 (held_cons trivial (held_cons o1 (held_cons trivial held_nil)))) ?_
      refine wpD_all (rs := [4]) (by kernel_rfl) (by simp) (allD_cons ?_ allD_nil)
      refine stepD_enterL (L' := [(2, fun _ => True), (1, fun w => w.cell? ((Addr.mk b9 0 none).add 0) = some (Value.int .i64 x13)), (0, fun _ => True)]) rfl rfl rfl rfl (x_call (vs := [(Sl.v x14)]) rfl rfl (mapl_cons rfl mapl_nil) Tryz.func27 NN_27 NB_27) (by kernel_rfl) (Calls.mono h ?_)
      rintro _ w8 ⟨r19, rfl, h⟩
      obtain ⟨o1, h⟩ := h
      refine ⟨_, rfl, (held_cons trivial (held_cons o1 (held_cons trivial held_nil))), ?_⟩
      refine wpD_take (v := (Value.agg #[(Value.int .i64 x13), (Sl.v r19)])) 5 (fun _ => True) rfl (by kernel_rfl) (by kernel_rfl) (by kernel_rfl) rfl rfl rfl trivial (fun w _ => (x_build (qs := [(0, (Value.int .i64 x13)), (1, (Sl.v r19))]) rfl (by rfl) (BD_38_0_1 x13 r19 _))) ?_
      refine wpD_all (rs := [7]) (by kernel_rfl) (by simp) (allD_cons ?_ allD_nil)
      obtain ⟨q20, h⟩ := h
      obtain ⟨w9, hw20⟩ : ∃ u, u = setAll w8 (Addr.mk b18 0 none) [(Value.int .i64 x13), (Sl.v r19)] 0 := ⟨_, rfl⟩
      replace h := h w9 hw20
      refine stepD_skpL (L' := []) (w' := w9) rfl rfl rfl ((x_store (v := (Value.agg #[(Value.int .i64 x13), (Sl.v r19)])) rfl rfl rfl SZ_38 (ones (by rfl)) q20).trans (by rw [hw20]; rfl)) (by kernel_rfl) held_nil ?_
      exact wpD_done (by kernel_rfl) ⟨some (Addr.mk b18 0 none), ⟨rfl, e1, e2, e3, e6, trivial⟩, h⟩
  clear h
  rintro l21 ρ w10 ⟨e8, e1, e2, e3, e6, -⟩ h
  replace h := hk l21 w10 h
  clear hk
  refine wpC_seq ?_
  refine wpC_seq ?_
  refine wpC_region ?_
  obtain ⟨x22, q22, x23, q23, h⟩ := h
  refine rv (Value.agg #[(Value.int .i64 x22), (Sl.v x23)]) w10 rfl rfl rfl (x_loadN [(Value.int .i64 x22), (Sl.v x23)] rfl e3 SH_38 (CellsAt.out (CellsAt.cons q22 (CellsAt.cons q23 CellsAt.nil)))) ?_
  refine wpR_enter rfl rfl rfl (x_call (vs := [(Value.agg #[(Value.int .i64 x22), (Sl.v x23)])]) rfl rfl (mapl_cons rfl mapl_nil) Tryz.func28 NN_28 NB_28) (Calls.mono h ?_)
  rintro _ w11 ⟨r24, rfl, h⟩
  refine ⟨_, rfl, ?_⟩
  refine rv (Value.bool (!r24)) w11 rfl rfl rfl (x_not rfl rfl) ?_
  refine rv (Value.bool (!r24)) w11 rfl rfl rfl (x_move rfl rfl) ?_
  refine wpR_joinJ 3 (fun (_ : Unit) ρ => ρ 24 = Value.bool ((!r24) || (decide (p1 < 0))) ∧ ρ 1 = (Value.int .i64 p1) ∧ ρ 2 = (Value.int .i64 p2) ∧ ρ 3 = (Value.pointer (some (Addr.mk b9 0 none))) ∧ ρ 6 = (Value.pointer (some (Addr.mk b10 0 none))) ∧ ρ 8 = (Value.pointer l21) ∧ True) (fun _ w => w11 = w) ?_ ?_
  · clear h
    rcases Bool.eq_false_or_eq_true (!r24) with hc26 | hc26
    · skip
      refine wpR_pass (wantN rfl rfl rfl hc26) rfl rfl ?_
      refine wpR_pass (wantN rfl rfl rfl hc26) rfl rfl ?_
      refine rv (Value.bool true) w11 rfl rfl rfl (x_pickT (v := (Value.bool true)) rfl rfl hc26 rfl) ?_
      refine wpR_nil ?_
      exact ⟨(), ⟨(by rw [hc26]; rfl), e1, e2, e3, e6, e8, trivial⟩, rfl⟩
    · skip
      refine wpR_val (v := (Value.int .i64 p1)) (w' := w11) (wantG rfl rfl rfl hc26) rfl rfl (x_move rfl e1) ?_
      refine wpR_val (v := (Value.bool (decide (p1 < 0)))) (w' := w11) (wantG rfl rfl rfl hc26) rfl rfl (x_lss rfl rfl rfl) ?_
      refine rv (Value.bool (decide (p1 < 0))) w11 rfl rfl rfl (x_pickF (v := (Value.bool (decide (p1 < 0)))) rfl rfl hc26 rfl) ?_
      refine wpR_nil ?_
      exact ⟨(), ⟨(by rw [hc26]; rfl), e1, e2, e3, e6, e8, trivial⟩, rfl⟩
  rintro _ ρ wj ⟨e24, e1, e2, e3, e6, e8, -⟩ rfl
  refine rv (Value.bool ((!r24) || (decide (p1 < 0)))) w11 rfl rfl rfl (x_move rfl e24) ?_
  refine wpR_joinJ 3 (fun (_ : Unit) ρ => ρ 28 = Value.bool (((!r24) || (decide (p1 < 0))) || (decide (1099511627776 ≤ p1))) ∧ ρ 1 = (Value.int .i64 p1) ∧ ρ 2 = (Value.int .i64 p2) ∧ ρ 3 = (Value.pointer (some (Addr.mk b9 0 none))) ∧ ρ 6 = (Value.pointer (some (Addr.mk b10 0 none))) ∧ ρ 8 = (Value.pointer l21) ∧ True) (fun _ w => w11 = w) ?_ ?_
  · clear h
    rcases Bool.eq_false_or_eq_true ((!r24) || (decide (p1 < 0))) with hc28 | hc28
    · skip
      refine wpR_pass (wantN rfl rfl rfl hc28) rfl rfl ?_
      refine wpR_pass (wantN rfl rfl rfl hc28) rfl rfl ?_
      refine rv (Value.bool true) w11 rfl rfl rfl (x_pickT (v := (Value.bool true)) rfl rfl hc28 rfl) ?_
      refine wpR_nil ?_
      exact ⟨(), ⟨(by rw [hc28]; rfl), e1, e2, e3, e6, e8, trivial⟩, rfl⟩
    · skip
      refine wpR_val (v := (Value.int .i64 p1)) (w' := w11) (wantG rfl rfl rfl hc28) rfl rfl (x_move rfl e1) ?_
      refine wpR_val (v := (Value.bool (decide (1099511627776 ≤ p1)))) (w' := w11) (wantG rfl rfl rfl hc28) rfl rfl (x_geq rfl rfl rfl) ?_
      refine rv (Value.bool (decide (1099511627776 ≤ p1))) w11 rfl rfl rfl (x_pickF (v := (Value.bool (decide (1099511627776 ≤ p1)))) rfl rfl hc28 rfl) ?_
      refine wpR_nil ?_
      exact ⟨(), ⟨(by rw [hc28]; rfl), e1, e2, e3, e6, e8, trivial⟩, rfl⟩
  rintro _ ρ wj ⟨e28, e1, e2, e3, e6, e8, -⟩ rfl
  refine rv (Value.bool (((!r24) || (decide (p1 < 0))) || (decide (1099511627776 ≤ p1)))) w11 rfl rfl rfl (x_move rfl e28) ?_
  refine wpR_joinJ 3 (fun (_ : Unit) ρ => ρ 32 = Value.bool ((((!r24) || (decide (p1 < 0))) || (decide (1099511627776 ≤ p1))) || (decide (p2 < 0))) ∧ ρ 1 = (Value.int .i64 p1) ∧ ρ 2 = (Value.int .i64 p2) ∧ ρ 3 = (Value.pointer (some (Addr.mk b9 0 none))) ∧ ρ 6 = (Value.pointer (some (Addr.mk b10 0 none))) ∧ ρ 8 = (Value.pointer l21) ∧ True) (fun _ w => w11 = w) ?_ ?_
  · clear h
    rcases Bool.eq_false_or_eq_true (((!r24) || (decide (p1 < 0))) || (decide (1099511627776 ≤ p1))) with hc30 | hc30
    · skip
      refine wpR_pass (wantN rfl rfl rfl hc30) rfl rfl ?_
      refine wpR_pass (wantN rfl rfl rfl hc30) rfl rfl ?_
      refine rv (Value.bool true) w11 rfl rfl rfl (x_pickT (v := (Value.bool true)) rfl rfl hc30 rfl) ?_
      refine wpR_nil ?_
      exact ⟨(), ⟨(by rw [hc30]; rfl), e1, e2, e3, e6, e8, trivial⟩, rfl⟩
    · skip
      refine wpR_val (v := (Value.int .i64 p2)) (w' := w11) (wantG rfl rfl rfl hc30) rfl rfl (x_move rfl e2) ?_
      refine wpR_val (v := (Value.bool (decide (p2 < 0)))) (w' := w11) (wantG rfl rfl rfl hc30) rfl rfl (x_lss rfl rfl rfl) ?_
      refine rv (Value.bool (decide (p2 < 0))) w11 rfl rfl rfl (x_pickF (v := (Value.bool (decide (p2 < 0)))) rfl rfl hc30 rfl) ?_
      refine wpR_nil ?_
      exact ⟨(), ⟨(by rw [hc30]; rfl), e1, e2, e3, e6, e8, trivial⟩, rfl⟩
  rintro _ ρ wj ⟨e32, e1, e2, e3, e6, e8, -⟩ rfl
  refine rv (Value.bool ((((!r24) || (decide (p1 < 0))) || (decide (1099511627776 ≤ p1))) || (decide (p2 < 0)))) w11 rfl rfl rfl (x_move rfl e32) ?_
  obtain ⟨J31, h, hk⟩ := h
  refine wpR_joinJ 4 (fun x ρ => ρ 37 = Value.bool x ∧ ρ 1 = (Value.int .i64 p1) ∧ ρ 2 = (Value.int .i64 p2) ∧ ρ 3 = (Value.pointer (some (Addr.mk b9 0 none))) ∧ ρ 6 = (Value.pointer (some (Addr.mk b10 0 none))) ∧ ρ 8 = (Value.pointer l21) ∧ True) (J31) ?_ ?_
  · clear hk
    rcases Bool.eq_false_or_eq_true ((((!r24) || (decide (p1 < 0))) || (decide (1099511627776 ≤ p1))) || (decide (p2 < 0))) with hc32 | hc32
    · replace h := h.1 hc32
      refine wpR_pass (wantN rfl rfl rfl hc32) rfl rfl ?_
      refine wpR_pass (wantN rfl rfl rfl hc32) rfl rfl ?_
      refine wpR_pass (wantN rfl rfl rfl hc32) rfl rfl ?_
      refine rv (Value.bool true) w11 rfl rfl rfl (x_pickT (v := (Value.bool true)) rfl rfl hc32 rfl) ?_
      refine wpR_nil ?_
      exact ⟨true, ⟨rfl, e1, e2, e3, e6, e8, trivial⟩, h⟩
    · replace h := h.2 hc32
      obtain ⟨x33, q33, x34, q34, h⟩ := h
      refine wpR_val (v := (Value.agg #[(Value.int .i64 x33), (Sl.v x34)])) (w' := w11) (wantG rfl rfl rfl hc32) rfl rfl (x_loadN [(Value.int .i64 x33), (Sl.v x34)] rfl e3 SH_38 (CellsAt.out (CellsAt.cons q33 (CellsAt.cons q34 CellsAt.nil)))) ?_
      refine wpR_val (v := (Value.int .i64 p1)) (w' := w11) (wantG rfl rfl rfl hc32) rfl rfl (x_move rfl e1) ?_
      refine wpR_enter (wantG rfl rfl rfl hc32) rfl rfl (x_call (vs := [(Value.agg #[(Value.int .i64 x33), (Sl.v x34)]), (Value.int .i64 p1)]) rfl rfl (mapl_cons rfl (mapl_cons rfl mapl_nil)) Tryz.func29 NN_29 NB_29) (Calls.mono h ?_)
      rintro _ w12 ⟨r35, rfl, h⟩
      refine ⟨_, rfl, ?_⟩
      refine rv (Value.bool r35) w12 rfl rfl rfl (x_pickF (v := (Value.bool r35)) rfl rfl hc32 rfl) ?_
      refine wpR_nil ?_
      exact ⟨r35, ⟨rfl, e1, e2, e3, e6, e8, trivial⟩, h⟩
  clear h
  rintro c36 ρ w13 ⟨e37, e1, e2, e3, e6, e8, -⟩ h
  replace h := hk c36 w13 h
  clear hk
  refine wpR_nil ?_
  refine wpC_cond (b := c36) e37 (fun hc37 => ?_) (fun hc37 => ?_)
  · replace h := h.1 hc37
    refine wpC_seq ?_
    refine wpC_region ?_
    obtain ⟨a38, q38, h⟩ := h
    obtain ⟨x39, q39, x40, q40, h⟩ := h
    refine rv (Value.agg #[(Value.int .i64 x39), (Sl.v x40)]) w13 rfl rfl rfl (x_loadN [(Value.int .i64 x39), (Sl.v x40)] rfl ((e8).trans (congrArg Value.pointer q38)) SH_38 (CellsAt.out (CellsAt.cons q39 (CellsAt.cons q40 CellsAt.nil)))) ?_
    obtain ⟨q41, h⟩ := h
    obtain ⟨w14, hw41⟩ : ∃ u, u = setAll w13 (Addr.mk b10 0 none) [(Value.int .i64 x39), (Sl.v x40)] 0 := ⟨_, rfl⟩
    replace h := h w14 hw41
    refine wpR_skp (w' := w14) rfl rfl ((x_store (v := (Value.agg #[(Value.int .i64 x39), (Sl.v x40)])) rfl e6 rfl SZ_38 (ones (by rfl)) q41).trans (by rw [hw41]; rfl)) ?_
    refine rv (Value.bool false) w14 rfl rfl rfl (x_assign rfl rfl) ?_
    refine wpR_nil ?_
    refine wpC_ret ?_
    obtain ⟨x42, q42, x43, q43, h⟩ := h
    exact ⟨.inl rfl, fun a ha => ⟨_, results_repCT [(Value.int .i64 x42), (Sl.v x43)] rfl ha e6 rfl SH_38 (CellsAt.out (CellsAt.cons q42 (CellsAt.cons q43 CellsAt.nil))), (x42, x43, false), rfl, h⟩⟩
  · replace h := h.2 hc37
    refine wpC_skip ?_
    refine wpC_seq ?_
    refine wpC_region ?_
    obtain ⟨x44, q44, x45, q45, h⟩ := h
    refine rv (Value.agg #[(Value.int .i64 x44), (Sl.v x45)]) w13 rfl rfl rfl (x_loadN [(Value.int .i64 x44), (Sl.v x45)] rfl e3 SH_38 (CellsAt.out (CellsAt.cons q44 (CellsAt.cons q45 CellsAt.nil)))) ?_
    refine rv (Value.int .i64 p1) w13 rfl rfl rfl (x_move rfl e1) ?_
    refine wpR_enter rfl rfl rfl (x_call (vs := [(Value.agg #[(Value.int .i64 x44), (Sl.v x45)]), (Value.int .i64 p1)]) rfl rfl (mapl_cons rfl (mapl_cons rfl mapl_nil)) Tryz.func30 NN_30 NB_30) (Calls.mono h ?_)
    rintro _ w15 ⟨r46, rfl, h⟩
    refine ⟨_, rfl, ?_⟩
    refine rv (Value.int .i64 r46) w15 rfl rfl rfl (x_assign rfl rfl) ?_
    refine wpR_nil ?_
    refine wpC_seq ?_
    refine wpC_cut (fun ρ => ρ 1 = (Value.int .i64 p1) ∧ ρ 2 = (Value.int .i64 p2) ∧ ρ 6 = (Value.pointer (some (Addr.mk b10 0 none))) ∧ ρ 8 = (Value.pointer l21) ∧ ρ 9 = (Value.int .i64 r46) ∧ True) ⟨e1, e2, e6, e8, rfl, trivial⟩ ?_
    rintro ρ ⟨e1, e2, e6, e8, e9, -⟩
    refine wpC_region ?_
    refine rv (Value.int .i64 r46) w15 rfl rfl rfl (x_move rfl e9) ?_
    refine rv (Value.bool (decide (0 < r46))) w15 rfl rfl rfl (x_gtr rfl rfl rfl) ?_
    refine rv (Value.bool (decide (0 < r46))) w15 rfl rfl rfl (x_move rfl rfl) ?_
    obtain ⟨J47, h, hk⟩ := h
    refine wpR_joinJ 10 (fun x ρ => ρ 54 = Value.bool x ∧ ρ 1 = (Value.int .i64 p1) ∧ ρ 2 = (Value.int .i64 p2) ∧ ρ 6 = (Value.pointer (some (Addr.mk b10 0 none))) ∧ ρ 8 = (Value.pointer l21) ∧ ρ 9 = (Value.int .i64 r46) ∧ True) (J47) ?_ ?_
    · clear hk
      rcases Bool.eq_false_or_eq_true (decide (0 < r46)) with hc48 | hc48
      · replace h := h.1 hc48
        obtain ⟨a49, q49, h⟩ := h
        refine wpR_val (v := (Value.pointer (some (a49.add 1)))) (w' := w15) (wantG rfl rfl rfl hc48) rfl rfl (x_fieldAddr rfl ((e8).trans (congrArg Value.pointer q49)) FA_38_1) ?_
        obtain ⟨x50, q50, h⟩ := h
        refine wpR_val (v := (Sl.v x50)) (w' := w15) (wantG rfl rfl rfl hc48) rfl rfl (x_load1 rfl rfl SH_36 q50) ?_
        refine wpR_val (v := (Value.int .i64 r46)) (w' := w15) (wantG rfl rfl rfl hc48) rfl rfl (x_move rfl e9) ?_
        refine wpR_val (v := (Value.int .i64 (IntKind.i64.wrap (r46 - 1)))) (w' := w15) (wantG rfl rfl rfl hc48) rfl rfl (x_sub rfl rfl rfl) ?_
        obtain ⟨q51, z51, r51, h⟩ := h
        generalize hp51 : z51.add ((IntKind.i64.wrap (r46 - 1) : Int).toNat * 2) = p51 at h
        refine wpR_val (v := (Value.pointer (some p51))) (w' := w15) (wantG rfl rfl rfl hc48) rfl rfl ((x_indexAddr (s := x50) rfl rfl rfl ES_36 q51 r51).trans (by rw [hp51])) ?_
        obtain ⟨p52, w16, q52, h⟩ := h
        refine wpR_val (v := (Value.pointer (some p52))) (w' := w16) (wantG rfl rfl rfl hc48) rfl rfl (x_indexAt rfl rfl rfl q52) ?_
        obtain ⟨x53, q53, h⟩ := h
        refine wpR_val (v := (Value.int .i64 x53)) (w' := w16) (wantG rfl rfl rfl hc48) rfl rfl (x_load1 rfl rfl SH_3 q53) ?_
        refine wpR_val (v := (Value.int .i64 p1)) (w' := w16) (wantG rfl rfl rfl hc48) rfl rfl (x_move rfl e1) ?_
        refine wpR_val (v := (Value.bool (decide (x53 = p1)))) (w' := w16) (wantG rfl rfl rfl hc48) rfl rfl (x_eql rfl rfl rfl) ?_
        refine rv (Value.bool (decide (x53 = p1))) w16 rfl rfl rfl (x_pickT (v := (Value.bool (decide (x53 = p1)))) rfl rfl hc48 rfl) ?_
        refine wpR_nil ?_
        exact ⟨decide (x53 = p1), ⟨rfl, e1, e2, e6, e8, e9, trivial⟩, h⟩
      · replace h := h.2 hc48
        refine wpR_pass (wantN rfl rfl rfl hc48) rfl rfl ?_
        refine wpR_pass (wantN rfl rfl rfl hc48) rfl rfl ?_
        refine wpR_pass (wantN rfl rfl rfl hc48) rfl rfl ?_
        refine wpR_pass (wantN rfl rfl rfl hc48) rfl rfl ?_
        refine wpR_pass (wantN rfl rfl rfl hc48) rfl rfl ?_
        refine wpR_pass (wantN rfl rfl rfl hc48) rfl rfl ?_
        refine wpR_pass (wantN rfl rfl rfl hc48) rfl rfl ?_
        refine wpR_pass (wantN rfl rfl rfl hc48) rfl rfl ?_
        refine wpR_pass (wantN rfl rfl rfl hc48) rfl rfl ?_
        refine rv (Value.bool false) w15 rfl rfl rfl (x_pickF (v := (Value.bool false)) rfl rfl hc48 rfl) ?_
        refine wpR_nil ?_
        exact ⟨false, ⟨rfl, e1, e2, e6, e8, e9, trivial⟩, h⟩
    clear h
    rintro c54 ρ w17 ⟨e54, e1, e2, e6, e8, e9, -⟩ h
    replace h := hk c54 w17 h
    clear hk
    refine rv (Value.bool c54) w17 rfl rfl rfl (x_assign rfl e54) ?_
    refine wpR_nil ?_
    refine wpC_seq ?_
    refine wpC_cut (fun ρ => ρ 1 = (Value.int .i64 p1) ∧ ρ 2 = (Value.int .i64 p2) ∧ ρ 6 = (Value.pointer (some (Addr.mk b10 0 none))) ∧ ρ 8 = (Value.pointer l21) ∧ ρ 9 = (Value.int .i64 r46) ∧ ρ 10 = (Value.bool c54) ∧ True) ⟨e1, e2, e6, e8, e9, rfl, trivial⟩ ?_
    rintro ρ ⟨e1, e2, e6, e8, e9, e10, -⟩
    refine wpC_region ?_
    refine rv (Value.int .i64 r46) w17 rfl rfl rfl (x_move rfl e9) ?_
    obtain ⟨a55, q55, h⟩ := h
    refine rv (Value.pointer (some (a55.add 1))) w17 rfl rfl rfl (x_fieldAddr rfl ((e8).trans (congrArg Value.pointer q55)) FA_38_1) ?_
    obtain ⟨x56, q56, h⟩ := h
    refine rv (Sl.v x56) w17 rfl rfl rfl (x_load1 rfl rfl SH_36 q56) ?_
    refine rv (Value.int .i64 (x56.len : Int)) w17 rfl rfl rfl (x_lenS (s := x56) rfl rfl isSliceT_36) ?_
    refine rv (Value.bool (decide (r46 < (x56.len : Int)))) w17 rfl rfl rfl (x_lss rfl rfl rfl) ?_
    refine rv (Value.bool (decide (r46 < (x56.len : Int)))) w17 rfl rfl rfl (x_move rfl rfl) ?_
    obtain ⟨J57, h, hk⟩ := h
    refine wpR_joinJ 10 (fun x ρ => ρ 70 = Value.bool x ∧ ρ 1 = (Value.int .i64 p1) ∧ ρ 2 = (Value.int .i64 p2) ∧ ρ 6 = (Value.pointer (some (Addr.mk b10 0 none))) ∧ ρ 8 = (Value.pointer l21) ∧ ρ 9 = (Value.int .i64 r46) ∧ ρ 10 = (Value.bool c54) ∧ True) (J57) ?_ ?_
    · clear hk
      rcases Bool.eq_false_or_eq_true (decide (r46 < (x56.len : Int))) with hc58 | hc58
      · replace h := h.1 hc58
        obtain ⟨a59, q59, h⟩ := h
        refine wpR_val (v := (Value.pointer (some (a59.add 1)))) (w' := w17) (wantG rfl rfl rfl hc58) rfl rfl (x_fieldAddr rfl ((e8).trans (congrArg Value.pointer q59)) FA_38_1) ?_
        obtain ⟨x60, q60, h⟩ := h
        refine wpR_val (v := (Sl.v x60)) (w' := w17) (wantG rfl rfl rfl hc58) rfl rfl (x_load1 rfl rfl SH_36 q60) ?_
        refine wpR_val (v := (Value.int .i64 r46)) (w' := w17) (wantG rfl rfl rfl hc58) rfl rfl (x_move rfl e9) ?_
        obtain ⟨q61, z61, r61, h⟩ := h
        generalize hp61 : z61.add ((r46 : Int).toNat * 2) = p61 at h
        refine wpR_val (v := (Value.pointer (some p61))) (w' := w17) (wantG rfl rfl rfl hc58) rfl rfl ((x_indexAddr (s := x60) rfl rfl rfl ES_36 q61 r61).trans (by rw [hp61])) ?_
        obtain ⟨p62, w18, q62, h⟩ := h
        refine wpR_val (v := (Value.pointer (some p62))) (w' := w18) (wantG rfl rfl rfl hc58) rfl rfl (x_indexAt rfl rfl rfl q62) ?_
        obtain ⟨x63, q63, h⟩ := h
        refine wpR_val (v := (Value.int .i64 x63)) (w' := w18) (wantG rfl rfl rfl hc58) rfl rfl (x_load1 rfl rfl SH_3 q63) ?_
        refine wpR_val (v := (Value.int .i64 p1)) (w' := w18) (wantG rfl rfl rfl hc58) rfl rfl (x_move rfl e1) ?_
        refine wpR_val (v := (Value.int .i64 (IntKind.i64.wrap (p1 + 1)))) (w' := w18) (wantG rfl rfl rfl hc58) rfl rfl (x_add rfl rfl rfl) ?_
        refine wpR_val (v := (Value.bool (decide (x63 = (IntKind.i64.wrap (p1 + 1)))))) (w' := w18) (wantG rfl rfl rfl hc58) rfl rfl (x_eql rfl rfl rfl) ?_
        refine rv (Value.bool (decide (x63 = (IntKind.i64.wrap (p1 + 1))))) w18 rfl rfl rfl (x_pickT (v := (Value.bool (decide (x63 = (IntKind.i64.wrap (p1 + 1)))))) rfl rfl hc58 rfl) ?_
        refine wpR_nil ?_
        exact ⟨decide (x63 = (IntKind.i64.wrap (p1 + 1))), ⟨rfl, e1, e2, e6, e8, e9, e10, trivial⟩, h⟩
      · replace h := h.2 hc58
        refine wpR_pass (wantN rfl rfl rfl hc58) rfl rfl ?_
        refine wpR_pass (wantN rfl rfl rfl hc58) rfl rfl ?_
        refine wpR_pass (wantN rfl rfl rfl hc58) rfl rfl ?_
        refine wpR_pass (wantN rfl rfl rfl hc58) rfl rfl ?_
        refine wpR_pass (wantN rfl rfl rfl hc58) rfl rfl ?_
        refine wpR_pass (wantN rfl rfl rfl hc58) rfl rfl ?_
        refine wpR_pass (wantN rfl rfl rfl hc58) rfl rfl ?_
        refine wpR_pass (wantN rfl rfl rfl hc58) rfl rfl ?_
        refine wpR_pass (wantN rfl rfl rfl hc58) rfl rfl ?_
        refine rv (Value.bool false) w17 rfl rfl rfl (x_pickF (v := (Value.bool false)) rfl rfl hc58 rfl) ?_
        refine wpR_nil ?_
        exact ⟨false, ⟨rfl, e1, e2, e6, e8, e9, e10, trivial⟩, h⟩
    clear h
    rintro c64 ρ w19 ⟨e70, e1, e2, e6, e8, e9, e10, -⟩ h
    replace h := hk c64 w19 h
    clear hk
    refine rv (Value.bool c64) w19 rfl rfl rfl (x_assign rfl e70) ?_
    refine wpR_nil ?_
    obtain ⟨J65, h, hk⟩ := h
    refine wpC_seqJ (fun (x : Unit) ρ => ρ 2 = (Value.int .i64 p2) ∧ ρ 6 = (Value.pointer (some (Addr.mk b10 0 none))) ∧ ρ 8 = (Value.pointer l21) ∧ True) J65 ?_ ?_
    · clear hk
      refine wpC_block ?_
      refine wpC_seq ?_
      refine wpC_cut (fun ρ => ρ 1 = (Value.int .i64 p1) ∧ ρ 2 = (Value.int .i64 p2) ∧ ρ 6 = (Value.pointer (some (Addr.mk b10 0 none))) ∧ ρ 8 = (Value.pointer l21) ∧ ρ 9 = (Value.int .i64 r46) ∧ ρ 10 = (Value.bool c54) ∧ ρ 11 = (Value.bool c64) ∧ True) ⟨e1, e2, e6, e8, e9, e10, rfl, trivial⟩ ?_
      rintro ρ ⟨e1, e2, e6, e8, e9, e10, e11, -⟩
      refine wpC_region ?_
      refine rv (Value.bool c54) w19 rfl rfl rfl (x_move rfl e10) ?_
      refine rv (Value.bool c54) w19 rfl rfl rfl (x_move rfl rfl) ?_
      refine wpR_joinJ 2 (fun (_ : Unit) ρ => ρ 85 = Value.bool (c54 && c64) ∧ ρ 1 = (Value.int .i64 p1) ∧ ρ 2 = (Value.int .i64 p2) ∧ ρ 6 = (Value.pointer (some (Addr.mk b10 0 none))) ∧ ρ 8 = (Value.pointer l21) ∧ ρ 9 = (Value.int .i64 r46) ∧ ρ 10 = (Value.bool c54) ∧ ρ 11 = (Value.bool c64) ∧ True) (fun _ w => w19 = w) ?_ ?_
      · clear h
        rcases Bool.eq_false_or_eq_true (c54) with hc68 | hc68
        · skip
          refine wpR_val (v := (Value.bool c64)) (w' := w19) (wantG rfl rfl rfl hc68) rfl rfl (x_move rfl e11) ?_
          refine rv (Value.bool c64) w19 rfl rfl rfl (x_pickT (v := (Value.bool c64)) rfl rfl hc68 rfl) ?_
          refine wpR_nil ?_
          exact ⟨(), ⟨(by rw [hc68]; rfl), e1, e2, e6, e8, e9, e10, e11, trivial⟩, rfl⟩
        · skip
          refine wpR_pass (wantN rfl rfl rfl hc68) rfl rfl ?_
          refine rv (Value.bool false) w19 rfl rfl rfl (x_pickF (v := (Value.bool false)) rfl rfl hc68 rfl) ?_
          refine wpR_nil ?_
          exact ⟨(), ⟨(by rw [hc68]; rfl), e1, e2, e6, e8, e9, e10, e11, trivial⟩, rfl⟩
      rintro _ ρ wj ⟨e85, e1, e2, e6, e8, e9, e10, e11, -⟩ rfl
      refine rv (Value.bool (c54 && c64)) w19 rfl rfl rfl (x_assign rfl e85) ?_
      refine wpR_nil ?_
      refine wpC_cond (b := c54 && c64) rfl (fun hc69 => ?_) (fun hc69 => ?_)
      · replace h := h.1 hc69
        refine wpC_seq ?_
        refine wpC_cut (fun ρ => ρ 2 = (Value.int .i64 p2) ∧ ρ 6 = (Value.pointer (some (Addr.mk b10 0 none))) ∧ ρ 8 = (Value.pointer l21) ∧ ρ 9 = (Value.int .i64 r46) ∧ True) ⟨e2, e6, e8, e9, trivial⟩ ?_
        rintro ρ ⟨e2, e6, e8, e9, -⟩
        obtain ⟨J71, h, hk⟩ := h
        refine wpC_drawJ (by kernel_rfl) (fun (x : Unit) ρ => ρ 2 = (Value.int .i64 p2) ∧ ρ 6 = (Value.pointer (some (Addr.mk b10 0 none))) ∧ ρ 8 = (Value.pointer l21) ∧ ρ 9 = (Value.int .i64 r46) ∧ True) J71 ?_ ?_
        · clear hk
          unfold tk at h
          generalize w19.drew = w21 at h ⊢
          obtain ⟨a72, q72, h⟩ := h
          refine wpD_take (v := (Value.pointer (some (a72.add 1)))) 0 (fun _ => True) rfl (by kernel_rfl) (by kernel_rfl) (by kernel_rfl) rfl rfl rfl trivial (fun w _ => (x_fieldAddr rfl ((e8).trans (congrArg Value.pointer q72)) FA_38_1)) ?_
          obtain ⟨x73, q73, h⟩ := h
          refine wpD_take (v := (Sl.v x73)) 1 (fun w => w.cell? (a72.add 1) = some (Sl.v x73)) rfl (by kernel_rfl) (by kernel_rfl) (by kernel_rfl) rfl rfl rfl q73 (fun w q73 => (x_load1 rfl rfl SH_36 q73)) ?_
          refine wpD_take (v := (Value.int .i64 r46)) 2 (fun _ => True) rfl (by kernel_rfl) (by kernel_rfl) (by kernel_rfl) rfl rfl rfl trivial (fun w _ => (x_move (v := (Value.int .i64 r46)) rfl e9)) ?_
          refine wpD_take (v := (Value.int .i64 (IntKind.i64.wrap (r46 - 1)))) 3 (fun _ => True) rfl (by kernel_rfl) (by kernel_rfl) (by kernel_rfl) rfl rfl rfl trivial (fun w _ => (x_sub rfl rfl rfl)) ?_
          obtain ⟨a74, q74, h⟩ := h
          refine wpD_take (v := (Value.pointer (some (a74.add 1)))) 4 (fun _ => True) rfl (by kernel_rfl) (by kernel_rfl) (by kernel_rfl) rfl rfl rfl trivial (fun w _ => (x_fieldAddr rfl ((e8).trans (congrArg Value.pointer q74)) FA_38_1)) ?_
          obtain ⟨x75, q75, h⟩ := h
          refine wpD_take (v := (Sl.v x75)) 5 (fun w => w.cell? (a74.add 1) = some (Sl.v x75)) rfl (by kernel_rfl) (by kernel_rfl) (by kernel_rfl) rfl rfl rfl q75 (fun w q75 => (x_load1 rfl rfl SH_36 q75)) ?_
          refine wpD_take (v := (Value.int .i64 r46)) 6 (fun _ => True) rfl (by kernel_rfl) (by kernel_rfl) (by kernel_rfl) rfl rfl rfl trivial (fun w _ => (x_move (v := (Value.int .i64 r46)) rfl e9)) ?_
          obtain ⟨q76, z76, r76, h⟩ := h
          generalize hp76 : z76.add ((r46 : Int).toNat * 2) = p76 at h
          refine wpD_take (v := (Value.pointer (some p76))) 7 (fun _ => True) rfl (by kernel_rfl) (by kernel_rfl) (by kernel_rfl) rfl rfl rfl trivial (fun w _ => ((x_indexAddr (s := x75) rfl rfl rfl ES_36 q76 r76).trans (by rw [hp76]))) ?_
          obtain ⟨q77, z77, r77, h⟩ := h
          generalize hp77 : z77.add ((IntKind.i64.wrap (r46 - 1) : Int).toNat * 2) = p77 at h
          refine wpD_take (v := (Value.pointer (some p77))) 10 (fun _ => True) rfl (by kernel_rfl) (by kernel_rfl) (by kernel_rfl) rfl rfl rfl trivial (fun w _ => ((x_indexAddr (s := x73) rfl rfl rfl ES_36 q77 r77).trans (by rw [hp77]))) ?_
          refine wpD_all (rs := [8]) (by kernel_rfl) (by simp) (allD_cons ?_ allD_nil)
          obtain ⟨p78, w22, q78, h⟩ := h
          obtain ⟨o5, h⟩ := h
          obtain ⟨o1, h⟩ := h
          refine stepD_valL (L' := [(10, fun _ => True), (6, fun _ => True), (5, fun w => w.cell? (a74.add 1) = some (Sl.v x75)), (4, fun _ => True), (3, fun _ => True), (2, fun _ => True), (1, fun w => w.cell? (a72.add 1) = some (Sl.v x73)), (0, fun _ => True)]) (v := (Value.pointer (some p78))) (w' := w22) rfl rfl rfl rfl (x_indexAt rfl rfl rfl q78) (by kernel_rfl) (held_cons trivial (held_cons trivial (held_cons o5 (held_cons trivial (held_cons trivial (held_cons trivial (held_cons o1 (held_cons trivial held_nil)))))))) ?_
          obtain ⟨x79, q79, h⟩ := h
          refine wpD_take (v := (Value.int .i64 x79)) 9 (fun w => w.cell? p78 = some (Value.int .i64 x79)) rfl (by kernel_rfl) (by kernel_rfl) (by kernel_rfl) rfl rfl rfl q79 (fun w q79 => (x_load1 rfl rfl SH_3 q79)) ?_
          refine wpD_all (rs := [11]) (by kernel_rfl) (by simp) (allD_cons ?_ allD_nil)
          obtain ⟨p80, w23, q80, h⟩ := h
          refine stepD_valL (L' := []) (v := (Value.pointer (some p80))) (w' := w23) rfl rfl rfl rfl (x_indexAt rfl rfl rfl q80) (by kernel_rfl) held_nil ?_
          refine wpD_all (rs := [12]) (by kernel_rfl) (by simp) (allD_cons ?_ allD_nil)
          obtain ⟨q81, h⟩ := h
          obtain ⟨w24, hw81⟩ : ∃ u, u = setAll w23 p80 [(Value.int .i64 x79)] 0 := ⟨_, rfl⟩
          replace h := h w24 hw81
          refine stepD_skpL (L' := []) (w' := w24) rfl rfl rfl ((x_store (v := (Value.int .i64 x79)) rfl rfl rfl SZ_3 (ones (by rfl)) q81).trans (by rw [hw81]; rfl)) (by kernel_rfl) held_nil ?_
          exact wpD_done (by kernel_rfl) ⟨(), ⟨e2, e6, e8, e9, trivial⟩, h⟩
        clear h
        rintro l82 ρ w25 ⟨e2, e6, e8, e9, -⟩ h
        replace h := hk l82 w25 h
        clear hk
        refine wpC_region ?_
        obtain ⟨a83, q83, h⟩ := h
        refine rv (Value.pointer (some (a83.add 1))) w25 rfl rfl rfl (x_fieldAddr rfl ((e8).trans (congrArg Value.pointer q83)) FA_38_1) ?_
        obtain ⟨x84, q84, h⟩ := h
        refine rv (Sl.v x84) w25 rfl rfl rfl (x_load1 rfl rfl SH_36 q84) ?_
        refine rv (Value.int .i64 r46) w25 rfl rfl rfl (x_move rfl e9) ?_
        refine rv (Value.int .i64 r46) w25 rfl rfl rfl (x_move rfl e9) ?_
        refine rv (Value.int .i64 (IntKind.i64.wrap (r46 + 1))) w25 rfl rfl rfl (x_add rfl rfl rfl) ?_
        refine wpR_enter rfl rfl rfl (x_call (vs := [(Sl.v x84), (Value.int .i64 r46), (Value.int .i64 (IntKind.i64.wrap (r46 + 1)))]) rfl rfl (mapl_cons rfl (mapl_cons rfl (mapl_cons rfl mapl_nil))) Tryz.func31 NN_31 NB_31) (Calls.mono h ?_)
        rintro _ w26 ⟨r85, rfl, h⟩
        refine ⟨_, rfl, ?_⟩
        obtain ⟨a86, q86, h⟩ := h
        refine rv (Value.pointer (some (a86.add 1))) w26 rfl rfl rfl (x_fieldAddr rfl ((e8).trans (congrArg Value.pointer q86)) FA_38_1) ?_
        obtain ⟨q87, h⟩ := h
        obtain ⟨w27, hw87⟩ : ∃ u, u = setAll w26 (a86.add 1) [(Sl.v r85)] 0 := ⟨_, rfl⟩
        replace h := h w27 hw87
        refine wpR_skp (w' := w27) rfl rfl ((x_store (v := (Sl.v r85)) rfl rfl rfl SZ_36 (ones (by rfl)) q87).trans (by rw [hw87]; rfl)) ?_
        refine wpR_nil ?_
        exact ⟨(), ⟨e2, e6, e8, trivial⟩, h⟩
      · replace h := h.2 hc69
        refine wpC_seq ?_
        refine wpC_cut (fun ρ => ρ 1 = (Value.int .i64 p1) ∧ ρ 2 = (Value.int .i64 p2) ∧ ρ 6 = (Value.pointer (some (Addr.mk b10 0 none))) ∧ ρ 8 = (Value.pointer l21) ∧ ρ 9 = (Value.int .i64 r46) ∧ ρ 10 = (Value.bool c54) ∧ ρ 11 = (Value.bool c64) ∧ True) ⟨e1, e2, e6, e8, e9, e10, e11, trivial⟩ ?_
        rintro ρ ⟨e1, e2, e6, e8, e9, e10, e11, -⟩
        refine wpC_region ?_
        refine rv (Value.bool c54) w19 rfl rfl rfl (x_move rfl e10) ?_
        refine rv (Value.bool c54) w19 rfl rfl rfl (x_assign rfl rfl) ?_
        refine wpR_nil ?_
        refine wpC_cond (b := c54) rfl (fun hc88 => ?_) (fun hc88 => ?_)
        · replace h := h.1 hc88
          refine wpC_cut (fun ρ => ρ 1 = (Value.int .i64 p1) ∧ ρ 2 = (Value.int .i64 p2) ∧ ρ 6 = (Value.pointer (some (Addr.mk b10 0 none))) ∧ ρ 8 = (Value.pointer l21) ∧ ρ 9 = (Value.int .i64 r46) ∧ True) ⟨e1, e2, e6, e8, e9, trivial⟩ ?_
          rintro ρ ⟨e1, e2, e6, e8, e9, -⟩
          refine wpC_region ?_
          obtain ⟨a89, q89, h⟩ := h
          refine rv (Value.pointer (some (a89.add 1))) w19 rfl rfl rfl (x_fieldAddr rfl ((e8).trans (congrArg Value.pointer q89)) FA_38_1) ?_
          obtain ⟨x90, q90, h⟩ := h
          refine rv (Sl.v x90) w19 rfl rfl rfl (x_load1 rfl rfl SH_36 q90) ?_
          refine rv (Value.int .i64 r46) w19 rfl rfl rfl (x_move rfl e9) ?_
          refine rv (Value.int .i64 (IntKind.i64.wrap (r46 - 1))) w19 rfl rfl rfl (x_sub rfl rfl rfl) ?_
          refine rv (Value.int .i64 p1) w19 rfl rfl rfl (x_move rfl e1) ?_
          refine rv (Value.int .i64 (IntKind.i64.wrap (p1 + 1))) w19 rfl rfl rfl (x_add rfl rfl rfl) ?_
          obtain ⟨q91, z91, r91, h⟩ := h
          generalize hp91 : z91.add ((IntKind.i64.wrap (r46 - 1) : Int).toNat * 2) = p91 at h
          refine rv (Value.pointer (some p91)) w19 rfl rfl rfl ((x_indexAddr (s := x90) rfl rfl rfl ES_36 q91 r91).trans (by rw [hp91])) ?_
          obtain ⟨p92, w28, q92, h⟩ := h
          refine rv (Value.pointer (some p92)) w28 rfl rfl rfl (x_indexAt rfl rfl rfl q92) ?_
          obtain ⟨q93, h⟩ := h
          obtain ⟨w29, hw93⟩ : ∃ u, u = setAll w28 p92 [(Value.int .i64 (IntKind.i64.wrap (p1 + 1)))] 0 := ⟨_, rfl⟩
          replace h := h w29 hw93
          refine wpR_skp (w' := w29) rfl rfl ((x_store (v := (Value.int .i64 (IntKind.i64.wrap (p1 + 1)))) rfl rfl rfl SZ_3 (ones (by rfl)) q93).trans (by rw [hw93]; rfl)) ?_
          refine wpR_nil ?_
          exact ⟨(), ⟨e2, e6, e8, trivial⟩, h⟩
        · replace h := h.2 hc88
          refine wpC_seq ?_
          refine wpC_cut (fun ρ => ρ 1 = (Value.int .i64 p1) ∧ ρ 2 = (Value.int .i64 p2) ∧ ρ 6 = (Value.pointer (some (Addr.mk b10 0 none))) ∧ ρ 8 = (Value.pointer l21) ∧ ρ 9 = (Value.int .i64 r46) ∧ ρ 11 = (Value.bool c64) ∧ True) ⟨e1, e2, e6, e8, e9, e11, trivial⟩ ?_
          rintro ρ ⟨e1, e2, e6, e8, e9, e11, -⟩
          refine wpC_region ?_
          refine rv (Value.bool c64) w19 rfl rfl rfl (x_move rfl e11) ?_
          refine rv (Value.bool c64) w19 rfl rfl rfl (x_assign rfl rfl) ?_
          refine wpR_nil ?_
          refine wpC_cond (b := c64) rfl (fun hc94 => ?_) (fun hc94 => ?_)
          · replace h := h.1 hc94
            refine wpC_cut (fun ρ => ρ 1 = (Value.int .i64 p1) ∧ ρ 2 = (Value.int .i64 p2) ∧ ρ 6 = (Value.pointer (some (Addr.mk b10 0 none))) ∧ ρ 8 = (Value.pointer l21) ∧ ρ 9 = (Value.int .i64 r46) ∧ True) ⟨e1, e2, e6, e8, e9, trivial⟩ ?_
            rintro ρ ⟨e1, e2, e6, e8, e9, -⟩
            refine wpC_region ?_
            obtain ⟨a95, q95, h⟩ := h
            refine rv (Value.pointer (some (a95.add 1))) w19 rfl rfl rfl (x_fieldAddr rfl ((e8).trans (congrArg Value.pointer q95)) FA_38_1) ?_
            obtain ⟨x96, q96, h⟩ := h
            refine rv (Sl.v x96) w19 rfl rfl rfl (x_load1 rfl rfl SH_36 q96) ?_
            refine rv (Value.int .i64 r46) w19 rfl rfl rfl (x_move rfl e9) ?_
            refine rv (Value.int .i64 p1) w19 rfl rfl rfl (x_move rfl e1) ?_
            obtain ⟨q97, z97, r97, h⟩ := h
            generalize hp97 : z97.add ((r46 : Int).toNat * 2) = p97 at h
            refine rv (Value.pointer (some p97)) w19 rfl rfl rfl ((x_indexAddr (s := x96) rfl rfl rfl ES_36 q97 r97).trans (by rw [hp97])) ?_
            obtain ⟨p98, w30, q98, h⟩ := h
            refine rv (Value.pointer (some p98)) w30 rfl rfl rfl (x_indexAt rfl rfl rfl q98) ?_
            obtain ⟨q99, h⟩ := h
            obtain ⟨w31, hw99⟩ : ∃ u, u = setAll w30 p98 [(Value.int .i64 p1)] 0 := ⟨_, rfl⟩
            replace h := h w31 hw99
            refine wpR_skp (w' := w31) rfl rfl ((x_store (v := (Value.int .i64 p1)) rfl rfl rfl SZ_3 (ones (by rfl)) q99).trans (by rw [hw99]; rfl)) ?_
            refine wpR_nil ?_
            exact ⟨(), ⟨e2, e6, e8, trivial⟩, h⟩
          · replace h := h.2 hc94
            refine wpC_cut (fun ρ => ρ 1 = (Value.int .i64 p1) ∧ ρ 2 = (Value.int .i64 p2) ∧ ρ 6 = (Value.pointer (some (Addr.mk b10 0 none))) ∧ ρ 8 = (Value.pointer l21) ∧ ρ 9 = (Value.int .i64 r46) ∧ True) ⟨e1, e2, e6, e8, e9, trivial⟩ ?_
            rintro ρ ⟨e1, e2, e6, e8, e9, -⟩
            refine wpC_region ?_
            obtain ⟨a100, q100, h⟩ := h
            refine rv (Value.pointer (some (a100.add 1))) w19 rfl rfl rfl (x_fieldAddr rfl ((e8).trans (congrArg Value.pointer q100)) FA_38_1) ?_
            obtain ⟨x101, q101, h⟩ := h
            refine rv (Sl.v x101) w19 rfl rfl rfl (x_load1 rfl rfl SH_36 q101) ?_
            refine rv (Value.int .i64 r46) w19 rfl rfl rfl (x_move rfl e9) ?_
            refine rv (Value.int .i64 p1) w19 rfl rfl rfl (x_move rfl e1) ?_
            refine rv (Value.int .i64 p1) w19 rfl rfl rfl (x_move rfl e1) ?_
            refine rv (Value.int .i64 (IntKind.i64.wrap (p1 + 1))) w19 rfl rfl rfl (x_add rfl rfl rfl) ?_
            refine rv (Value.agg #[(Value.int .i64 p1), (Value.int .i64 (IntKind.i64.wrap (p1 + 1)))]) w19 rfl rfl rfl (x_build (qs := [(0, (Value.int .i64 p1)), (1, (Value.int .i64 (IntKind.i64.wrap (p1 + 1))))]) rfl (by rfl) (BD_83_0_1 p1 (IntKind.i64.wrap (p1 + 1)) _)) ?_
            obtain ⟨b102, hb102⟩ : ∃ u, u = w19.heap.size := ⟨_, rfl⟩
            obtain ⟨w32, hw102⟩ : ∃ u, u = w19.alloc (.cells #[(Value.int .i64 p1), (Value.int .i64 (IntKind.i64.wrap (p1 + 1)))] 83) := ⟨_, rfl⟩
            replace h := h b102 w32 hb102 hw102
            refine rv (Sl.v (⟨some ⟨b102, 0, none⟩, 1, 1⟩ : Sl)) w32 rfl rfl rfl ((x_buildSlice (qs := [(0, (Value.agg #[(Value.int .i64 p1), (Value.int .i64 (IntKind.i64.wrap (p1 + 1)))]))]) rfl (by rfl) (BS_36_1_0 p1 (IntKind.i64.wrap (p1 + 1)))).trans (by rw [← hb102, ← hw102])) ?_
            refine wpR_enter rfl rfl rfl (x_call (vs := [(Sl.v x101), (Value.int .i64 r46), (Sl.v (⟨some ⟨b102, 0, none⟩, 1, 1⟩ : Sl))]) rfl rfl (mapl_cons rfl (mapl_cons rfl (mapl_cons rfl mapl_nil))) Tryz.func32 NN_32 NB_32) (Calls.mono h ?_)
            rintro _ w33 ⟨r103, rfl, h⟩
            refine ⟨_, rfl, ?_⟩
            obtain ⟨a104, q104, h⟩ := h
            refine rv (Value.pointer (some (a104.add 1))) w33 rfl rfl rfl (x_fieldAddr rfl ((e8).trans (congrArg Value.pointer q104)) FA_38_1) ?_
            obtain ⟨q105, h⟩ := h
            obtain ⟨w34, hw105⟩ : ∃ u, u = setAll w33 (a104.add 1) [(Sl.v r103)] 0 := ⟨_, rfl⟩
            replace h := h w34 hw105
            refine wpR_skp (w' := w34) rfl rfl ((x_store (v := (Sl.v r103)) rfl rfl rfl SZ_36 (ones (by rfl)) q105).trans (by rw [hw105]; rfl)) ?_
            refine wpR_nil ?_
            exact ⟨(), ⟨e2, e6, e8, trivial⟩, h⟩
    clear h
    rintro l66 ρ w20 ⟨e2, e6, e8, -⟩ h
    replace h := hk l66 w20 h
    clear hk
    refine wpC_seq ?_
    refine wpC_block ?_
    obtain ⟨I106, μ106, hI106, hr106⟩ := h
    refine wpC_loop (fun (x : Unit) ρ => ρ 2 = (Value.int .i64 p2) ∧ ρ 6 = (Value.pointer (some (Addr.mk b10 0 none))) ∧ ρ 8 = (Value.pointer l21) ∧ True) I106 μ106 () ⟨e2, e6, e8, trivial⟩ hI106 ?_
    rintro l106 ρ w35 ⟨e2, e6, e8, -⟩ h
    replace h := hr106 l106 w35 h
    clear hr106 hI106
    refine wpC_seq ?_
    refine wpC_seq ?_
    obtain ⟨J108, h, hk⟩ := h
    refine wpC_drawJ (by kernel_rfl) (fun (x : Bool) ρ => ρ 143 = (Value.bool x) ∧ ρ 2 = (Value.int .i64 p2) ∧ ρ 6 = (Value.pointer (some (Addr.mk b10 0 none))) ∧ ρ 8 = (Value.pointer l21) ∧ True) J108 ?_ ?_
    · clear hk
      unfold tk at h
      generalize w35.drew = w36 at h ⊢
      obtain ⟨a109, q109, h⟩ := h
      refine wpD_take (v := (Value.pointer (some (a109.add 1)))) 0 (fun _ => True) rfl (by kernel_rfl) (by kernel_rfl) (by kernel_rfl) rfl rfl rfl trivial (fun w _ => (x_fieldAddr rfl ((e8).trans (congrArg Value.pointer q109)) FA_38_1)) ?_
      obtain ⟨x110, q110, h⟩ := h
      refine wpD_take (v := (Sl.v x110)) 1 (fun w => w.cell? (a109.add 1) = some (Sl.v x110)) rfl (by kernel_rfl) (by kernel_rfl) (by kernel_rfl) rfl rfl rfl q110 (fun w q110 => (x_load1 rfl rfl SH_36 q110)) ?_
      refine wpD_take (v := (Value.int .i64 (x110.len : Int))) 2 (fun _ => True) rfl (by kernel_rfl) (by kernel_rfl) (by kernel_rfl) rfl rfl rfl trivial (fun w _ => (x_lenS (s := x110) rfl rfl isSliceT_36)) ?_
      refine wpD_take (v := (Value.bool (decide (0 < (x110.len : Int))))) 3 (fun _ => True) rfl (by kernel_rfl) (by kernel_rfl) (by kernel_rfl) rfl rfl rfl trivial (fun w _ => (x_gtr rfl rfl rfl)) ?_
      refine wpD_take (v := (Value.bool (decide (0 < (x110.len : Int))))) 4 (fun _ => True) rfl (by kernel_rfl) (by kernel_rfl) (by kernel_rfl) rfl rfl rfl trivial (fun w _ => (x_move (v := (Value.bool (decide (0 < (x110.len : Int))))) rfl rfl)) ?_
      rcases Bool.eq_false_or_eq_true (decide (0 < (x110.len : Int))) with hc111 | hc111
      · replace h := h.1 hc111
        obtain ⟨a112, q112, h⟩ := h
        refine wpD_take (v := (Value.pointer (some (a112.add 1)))) 5 (fun _ => True) rfl (by kernel_rfl) (by kernel_rfl) (by kernel_rfl) (wantG rfl rfl rfl hc111) rfl rfl trivial (fun w _ => (x_fieldAddr rfl ((e8).trans (congrArg Value.pointer q112)) FA_38_1)) ?_
        obtain ⟨x113, q113, h⟩ := h
        refine wpD_take (v := (Sl.v x113)) 6 (fun w => w.cell? (a112.add 1) = some (Sl.v x113)) rfl (by kernel_rfl) (by kernel_rfl) (by kernel_rfl) (wantG rfl rfl rfl hc111) rfl rfl q113 (fun w q113 => (x_load1 rfl rfl SH_36 q113)) ?_
        obtain ⟨q114, z114, r114, h⟩ := h
        generalize hp114 : z114.add ((0 : Int).toNat * 2) = p114 at h
        refine wpD_take (v := (Value.pointer (some p114))) 7 (fun _ => True) rfl (by kernel_rfl) (by kernel_rfl) (by kernel_rfl) (wantG rfl rfl rfl hc111) rfl rfl trivial (fun w _ => ((x_indexAddr (s := x113) rfl rfl rfl ES_36 q114 r114).trans (by rw [hp114]))) ?_
        obtain ⟨a115, q115, h⟩ := h
        refine wpD_take (v := (Value.pointer (some (a115.add 0)))) 10 (fun _ => True) rfl (by kernel_rfl) (by kernel_rfl) (by kernel_rfl) (wantG rfl rfl rfl hc111) rfl rfl trivial (fun w _ => (x_fieldAddr rfl ((e8).trans (congrArg Value.pointer q115)) FA_38_0)) ?_
        obtain ⟨x116, q116, h⟩ := h
        refine wpD_take (v := (Value.int .i64 x116)) 11 (fun w => w.cell? (a115.add 0) = some (Value.int .i64 x116)) rfl (by kernel_rfl) (by kernel_rfl) (by kernel_rfl) (wantG rfl rfl rfl hc111) rfl rfl q116 (fun w q116 => (x_load1 rfl rfl SH_3 q116)) ?_
        refine wpD_all (rs := [8]) (by kernel_rfl) (by simp) (allD_cons ?_ allD_nil)
        obtain ⟨p117, w37, q117, h⟩ := h
        obtain ⟨o11, h⟩ := h
        obtain ⟨o6, h⟩ := h
        obtain ⟨o1, h⟩ := h
        refine stepD_valL (L' := [(11, fun w => w.cell? (a115.add 0) = some (Value.int .i64 x116)), (10, fun _ => True), (6, fun w => w.cell? (a112.add 1) = some (Sl.v x113)), (5, fun _ => True), (3, fun _ => True), (2, fun _ => True), (1, fun w => w.cell? (a109.add 1) = some (Sl.v x110)), (0, fun _ => True)]) (v := (Value.pointer (some p117))) (w' := w37) rfl (wantG rfl rfl rfl hc111) rfl rfl (x_indexAt rfl rfl rfl q117) (by kernel_rfl) (held_cons o11 (held_cons trivial (held_cons o6 (held_cons trivial (held_cons trivial (held_cons trivial (held_cons o1 (held_cons trivial held_nil)))))))) ?_
        obtain ⟨x118, q118, h⟩ := h
        refine wpD_take (v := (Value.int .i64 x118)) 9 (fun w => w.cell? p117 = some (Value.int .i64 x118)) rfl (by kernel_rfl) (by kernel_rfl) (by kernel_rfl) (wantG rfl rfl rfl hc111) rfl rfl q118 (fun w q118 => (x_load1 rfl rfl SH_3 q118)) ?_
        refine wpD_take (v := (Value.bool (decide (x118 = x116)))) 12 (fun _ => True) rfl (by kernel_rfl) (by kernel_rfl) (by kernel_rfl) (wantG rfl rfl rfl hc111) rfl rfl trivial (fun w _ => (x_eql rfl rfl rfl)) ?_
        refine wpD_take (v := (Value.bool (decide (x118 = x116)))) 13 (fun _ => True) rfl (by kernel_rfl) (by kernel_rfl) (by kernel_rfl) (wantG rfl rfl rfl hc111) rfl rfl trivial (fun w _ => (x_move (v := (Value.bool (decide (x118 = x116)))) rfl rfl)) ?_
        rcases Bool.eq_false_or_eq_true (decide (x118 = x116)) with hc119 | hc119
        · replace h := h.1 hc119
          refine wpD_pass 14 rfl (by kernel_rfl) (by kernel_rfl) (by kernel_rfl) (wantN rfl rfl rfl hc119) rfl rfl ?_
          refine wpD_pass 15 rfl (by kernel_rfl) (by kernel_rfl) (by kernel_rfl) (wantN rfl rfl rfl hc119) rfl rfl ?_
          refine wpD_pass 16 rfl (by kernel_rfl) (by kernel_rfl) (by kernel_rfl) (wantN rfl rfl rfl hc119) rfl rfl ?_
          refine wpD_pass 17 rfl (by kernel_rfl) (by kernel_rfl) (by kernel_rfl) (wantN rfl rfl rfl hc119) rfl rfl ?_
          refine wpD_pass 18 rfl (by kernel_rfl) (by kernel_rfl) (by kernel_rfl) (wantN rfl rfl rfl hc119) rfl rfl ?_
          refine wpD_take (v := (Value.bool true)) 19 (fun _ => True) rfl (by kernel_rfl) (by kernel_rfl) (by kernel_rfl) (wantG rfl rfl rfl hc111) rfl rfl trivial (fun w _ => (x_pickT (v := (Value.bool true)) rfl rfl hc119 rfl)) ?_
          refine wpD_take (v := (Value.bool true)) 20 (fun _ => True) rfl (by kernel_rfl) (by kernel_rfl) (by kernel_rfl) rfl rfl rfl trivial (fun w _ => (x_pickT (v := (Value.bool true)) rfl rfl hc111 rfl)) ?_
          exact wpD_done (by kernel_rfl) ⟨true, ⟨rfl, e2, e6, e8, trivial⟩, h⟩
        · replace h := h.2 hc119
          obtain ⟨a120, q120, h⟩ := h
          refine wpD_take (v := (Value.pointer (some (a120.add 1)))) 14 (fun _ => True) rfl (by kernel_rfl) (by kernel_rfl) (by kernel_rfl) (wantG rfl rfl rfl hc119) rfl rfl trivial (fun w _ => (x_fieldAddr rfl ((e8).trans (congrArg Value.pointer q120)) FA_38_1)) ?_
          obtain ⟨x121, q121, h⟩ := h
          refine wpD_take (v := (Sl.v x121)) 15 (fun w => w.cell? (a120.add 1) = some (Sl.v x121)) rfl (by kernel_rfl) (by kernel_rfl) (by kernel_rfl) (wantG rfl rfl rfl hc119) rfl rfl q121 (fun w q121 => (x_load1 rfl rfl SH_36 q121)) ?_
          refine wpD_take (v := (Value.int .i64 (x121.len : Int))) 16 (fun _ => True) rfl (by kernel_rfl) (by kernel_rfl) (by kernel_rfl) (wantG rfl rfl rfl hc119) rfl rfl trivial (fun w _ => (x_lenS (s := x121) rfl rfl isSliceT_36)) ?_
          refine wpD_take (v := (Value.int .i64 p2)) 17 (fun _ => True) rfl (by kernel_rfl) (by kernel_rfl) (by kernel_rfl) (wantG rfl rfl rfl hc119) rfl rfl trivial (fun w _ => (x_move (v := (Value.int .i64 p2)) rfl e2)) ?_
          refine wpD_take (v := (Value.bool (decide (p2 < (x121.len : Int))))) 18 (fun _ => True) rfl (by kernel_rfl) (by kernel_rfl) (by kernel_rfl) (wantG rfl rfl rfl hc119) rfl rfl trivial (fun w _ => (x_gtr rfl rfl rfl)) ?_
          refine wpD_take (v := (Value.bool (decide (p2 < (x121.len : Int))))) 19 (fun _ => True) rfl (by kernel_rfl) (by kernel_rfl) (by kernel_rfl) (wantG rfl rfl rfl hc111) rfl rfl trivial (fun w _ => (x_pickF (v := (Value.bool (decide (p2 < (x121.len : Int))))) rfl rfl hc119 rfl)) ?_
          refine wpD_take (v := (Value.bool (decide (p2 < (x121.len : Int))))) 20 (fun _ => True) rfl (by kernel_rfl) (by kernel_rfl) (by kernel_rfl) rfl rfl rfl trivial (fun w _ => (x_pickT (v := (Value.bool (decide (p2 < (x121.len : Int))))) rfl rfl hc111 rfl)) ?_
          exact wpD_done (by kernel_rfl) ⟨decide (p2 < (x121.len : Int)), ⟨rfl, e2, e6, e8, trivial⟩, h⟩
      · replace h := h.2 hc111
        refine wpD_pass 5 rfl (by kernel_rfl) (by kernel_rfl) (by kernel_rfl) (wantN rfl rfl rfl hc111) rfl rfl ?_
        refine wpD_pass 6 rfl (by kernel_rfl) (by kernel_rfl) (by kernel_rfl) (wantN rfl rfl rfl hc111) rfl rfl ?_
        refine wpD_pass 7 rfl (by kernel_rfl) (by kernel_rfl) (by kernel_rfl) (wantN rfl rfl rfl hc111) rfl rfl ?_
        refine wpD_pass 8 rfl (by kernel_rfl) (by kernel_rfl) (by kernel_rfl) (wantN rfl rfl rfl hc111) rfl rfl ?_
        refine wpD_pass 9 rfl (by kernel_rfl) (by kernel_rfl) (by kernel_rfl) (wantN rfl rfl rfl hc111) rfl rfl ?_
        refine wpD_pass 10 rfl (by kernel_rfl) (by kernel_rfl) (by kernel_rfl) (wantN rfl rfl rfl hc111) rfl rfl ?_
        refine wpD_pass 11 rfl (by kernel_rfl) (by kernel_rfl) (by kernel_rfl) (wantN rfl rfl rfl hc111) rfl rfl ?_
        refine wpD_pass 12 rfl (by kernel_rfl) (by kernel_rfl) (by kernel_rfl) (wantN rfl rfl rfl hc111) rfl rfl ?_
        refine wpD_pass 13 rfl (by kernel_rfl) (by kernel_rfl) (by kernel_rfl) (wantN rfl rfl rfl hc111) rfl rfl ?_
        refine wpD_pass 14 rfl (by kernel_rfl) (by kernel_rfl) (by kernel_rfl) (wantU rfl rfl rfl) rfl rfl ?_
        refine wpD_pass 15 rfl (by kernel_rfl) (by kernel_rfl) (by kernel_rfl) (wantU rfl rfl rfl) rfl rfl ?_
        refine wpD_pass 16 rfl (by kernel_rfl) (by kernel_rfl) (by kernel_rfl) (wantU rfl rfl rfl) rfl rfl ?_
        refine wpD_pass 17 rfl (by kernel_rfl) (by kernel_rfl) (by kernel_rfl) (wantU rfl rfl rfl) rfl rfl ?_
        refine wpD_pass 18 rfl (by kernel_rfl) (by kernel_rfl) (by kernel_rfl) (wantU rfl rfl rfl) rfl rfl ?_
        refine wpD_pass 19 rfl (by kernel_rfl) (by kernel_rfl) (by kernel_rfl) (wantN rfl rfl rfl hc111) rfl rfl ?_
        refine wpD_take (v := (Value.bool false)) 20 (fun _ => True) rfl (by kernel_rfl) (by kernel_rfl) (by kernel_rfl) rfl rfl rfl trivial (fun w _ => (x_pickF (v := (Value.bool false)) rfl rfl hc111 rfl)) ?_
        exact wpD_done (by kernel_rfl) ⟨false, ⟨rfl, e2, e6, e8, trivial⟩, h⟩
    clear h
    rintro l122 ρ w38 ⟨e143, e2, e6, e8, -⟩ h
    replace h := hk l122 w38 h
    clear hk
    refine wpC_cond (b := l122) e143 (fun hc123 => ?_) (fun hc123 => ?_)
    · replace h := h.1 hc123
      refine wpC_skip ?_
      refine wpC_block ?_
      refine wpC_seq ?_
      refine wpC_region ?_
      obtain ⟨a124, q124, h⟩ := h
      refine rv (Value.pointer (some (a124.add 1))) w38 rfl rfl rfl (x_fieldAddr rfl ((e8).trans (congrArg Value.pointer q124)) FA_38_1) ?_
      obtain ⟨x125, q125, h⟩ := h
      refine rv (Sl.v x125) w38 rfl rfl rfl (x_load1 rfl rfl SH_36 q125) ?_
      obtain ⟨q126, z126, r126, h⟩ := h
      generalize hp126 : z126.add ((0 : Int).toNat * 2) = p126 at h
      refine rv (Value.pointer (some p126)) w38 rfl rfl rfl ((x_indexAddr (s := x125) rfl rfl rfl ES_36 q126 r126).trans (by rw [hp126])) ?_
      obtain ⟨p127, w39, q127, h⟩ := h
      refine rv (Value.pointer (some p127)) w39 rfl rfl rfl (x_indexAt rfl rfl rfl q127) ?_
      obtain ⟨x128, q128, h⟩ := h
      refine rv (Value.int .i64 x128) w39 rfl rfl rfl (x_load1 rfl rfl SH_3 q128) ?_
      obtain ⟨a129, q129, h⟩ := h
      refine rv (Value.pointer (some (a129.add 0))) w39 rfl rfl rfl (x_fieldAddr rfl ((e8).trans (congrArg Value.pointer q129)) FA_38_0) ?_
      obtain ⟨q130, h⟩ := h
      obtain ⟨w40, hw130⟩ : ∃ u, u = setAll w39 (a129.add 0) [(Value.int .i64 x128)] 0 := ⟨_, rfl⟩
      replace h := h w40 hw130
      refine wpR_skp (w' := w40) rfl rfl ((x_store (v := (Value.int .i64 x128)) rfl rfl rfl SZ_3 (ones (by rfl)) q130).trans (by rw [hw130]; rfl)) ?_
      refine wpR_nil ?_
      refine wpC_cut (fun ρ => ρ 2 = (Value.int .i64 p2) ∧ ρ 6 = (Value.pointer (some (Addr.mk b10 0 none))) ∧ ρ 8 = (Value.pointer l21) ∧ True) ⟨e2, e6, e8, trivial⟩ ?_
      rintro ρ ⟨e2, e6, e8, -⟩
      refine wpC_region ?_
      obtain ⟨a131, q131, h⟩ := h
      refine rv (Value.pointer (some (a131.add 1))) w40 rfl rfl rfl (x_fieldAddr rfl ((e8).trans (congrArg Value.pointer q131)) FA_38_1) ?_
      obtain ⟨x132, q132, h⟩ := h
      refine rv (Sl.v x132) w40 rfl rfl rfl (x_load1 rfl rfl SH_36 q132) ?_
      obtain ⟨r133, w41, q133, h⟩ := h
      refine rv (Sl.v r133) w41 rfl rfl rfl (x_sliceAt rfl rfl (congrArg some rfl) rfl rfl q133) ?_
      obtain ⟨a134, q134, h⟩ := h
      refine rv (Value.pointer (some (a134.add 1))) w41 rfl rfl rfl (x_fieldAddr rfl ((e8).trans (congrArg Value.pointer q134)) FA_38_1) ?_
      obtain ⟨q135, h⟩ := h
      obtain ⟨w42, hw135⟩ : ∃ u, u = setAll w41 (a134.add 1) [(Sl.v r133)] 0 := ⟨_, rfl⟩
      replace h := h w42 hw135
      refine wpR_skp (w' := w42) rfl rfl ((x_store (v := (Sl.v r133)) rfl rfl rfl SZ_36 (ones (by rfl)) q135).trans (by rw [hw135]; rfl)) ?_
      refine wpR_nil ?_
      exact ⟨(), ⟨e2, e6, e8, trivial⟩, h⟩
    · replace h := h.2 hc123
      refine wpC_exit ?_
      refine wpC_seq ?_
      refine wpC_region ?_
      obtain ⟨a136, q136, h⟩ := h
      obtain ⟨x137, q137, x138, q138, h⟩ := h
      refine rv (Value.agg #[(Value.int .i64 x137), (Sl.v x138)]) w38 rfl rfl rfl (x_loadN [(Value.int .i64 x137), (Sl.v x138)] rfl ((e8).trans (congrArg Value.pointer q136)) SH_38 (CellsAt.out (CellsAt.cons q137 (CellsAt.cons q138 CellsAt.nil)))) ?_
      obtain ⟨q139, h⟩ := h
      obtain ⟨w43, hw139⟩ : ∃ u, u = setAll w38 (Addr.mk b10 0 none) [(Value.int .i64 x137), (Sl.v x138)] 0 := ⟨_, rfl⟩
      replace h := h w43 hw139
      refine wpR_skp (w' := w43) rfl rfl ((x_store (v := (Value.agg #[(Value.int .i64 x137), (Sl.v x138)])) rfl e6 rfl SZ_38 (ones (by rfl)) q139).trans (by rw [hw139]; rfl)) ?_
      refine rv (Value.bool true) w43 rfl rfl rfl (x_assign rfl rfl) ?_
      refine wpR_nil ?_
      refine wpC_ret ?_
      obtain ⟨x140, q140, x141, q141, h⟩ := h
      exact ⟨.inl rfl, fun a ha => ⟨_, results_repCT [(Value.int .i64 x140), (Sl.v x141)] rfl ha e6 rfl SH_38 (CellsAt.out (CellsAt.cons q140 (CellsAt.cons q141 CellsAt.nil))), (x140, x141, true), rfl, h⟩⟩

/-- once.Floor -/
def F11 (p0_0 : Int) (p0_1 : Sl) (w0 : World) (K : Int → World → Prop) : Prop :=
  nw 38 #[(Value.int .i64 p0_0), (Sl.v p0_1)] w0 fun b9 w1 =>
  ld (Value.int .i64) ((Addr.mk b9 0 none).add 0) w1 fun x10 =>
  ld Sl.v ((Addr.mk b9 0 none).add 1) w1 fun x11 =>
  callC Tryz.prog 28 #[(Value.agg #[(Value.int .i64 x10), (Sl.v x11)])] (fun (r : Bool) => (Value.bool r)) w1 fun r12 w2 =>
  cnd (!r12)
    (
    K (-1) w2
    )
    (
    ld (Value.int .i64) ((Addr.mk b9 0 none).add 0) w2 fun x14 =>
    K x14 w2
    )
set_option maxRecDepth 100000 in
theorem D11 (p0_0 : Int) (p0_1 : Sl) (w0 : World) (K : Int → World → Prop) (h : F11 p0_0 p0_1 w0 K) : callC Tryz.prog 11 #[(Value.agg #[(Value.int .i64 p0_0), (Sl.v p0_1)])] (fun (r : Int) => (Value.int .i64 r)) w0 K := by
  unfold F11 at h
  refine calls_of_wpC Tryz.func11 rfl 8 rfl (by simp) ?_
  intro ρ hρ
  have e0 : ρ 0 = (Value.agg #[(Value.int .i64 p0_0), (Sl.v p0_1)]) := hρ 0
  clear hρ
  refine wpC_seq ?_
  refine wpC_region ?_
  obtain ⟨b9, hb9⟩ : ∃ u, u = w0.heap.size := ⟨_, rfl⟩
  obtain ⟨w1, hw9⟩ : ∃ u, u = w0.alloc (.cells #[(Value.int .i64 p0_0), (Sl.v p0_1)] 38) := ⟨_, rfl⟩
  replace h := h b9 w1 hb9 hw9
  refine rv (Value.pointer (some (Addr.mk b9 0 none))) w1 rfl rfl rfl ((x_box (v := (Value.agg #[(Value.int .i64 p0_0), (Sl.v p0_1)])) rfl e0).trans (by rw [hb9, hw9]; rfl)) ?_
  refine rv (Value.int .i64 0) w1 rfl rfl rfl (x_assign rfl rfl) ?_
  refine wpR_nil ?_
  refine wpC_seq ?_
  refine wpC_seq ?_
  refine wpC_cut (fun ρ => ρ 1 = (Value.pointer (some (Addr.mk b9 0 none))) ∧ True) ⟨rfl, trivial⟩ ?_
  rintro ρ ⟨e1, -⟩
  refine wpC_region ?_
  obtain ⟨x10, q10, x11, q11, h⟩ := h
  refine rv (Value.agg #[(Value.int .i64 x10), (Sl.v x11)]) w1 rfl rfl rfl (x_loadN [(Value.int .i64 x10), (Sl.v x11)] rfl e1 SH_38 (CellsAt.out (CellsAt.cons q10 (CellsAt.cons q11 CellsAt.nil)))) ?_
  refine wpR_enter rfl rfl rfl (x_call (vs := [(Value.agg #[(Value.int .i64 x10), (Sl.v x11)])]) rfl rfl (mapl_cons rfl mapl_nil) Tryz.func28 NN_28 NB_28) (Calls.mono h ?_)
  rintro _ w2 ⟨r12, rfl, h⟩
  refine ⟨_, rfl, ?_⟩
  refine rv (Value.bool (!r12)) w2 rfl rfl rfl (x_not rfl rfl) ?_
  refine wpR_nil ?_
  refine wpC_cond (b := !r12) rfl (fun hc13 => ?_) (fun hc13 => ?_)
  · replace h := h.1 hc13
    refine wpC_seq ?_
    refine wpC_cut (fun ρ => True) trivial ?_
    rintro ρ -
    refine wpC_region ?_
    refine rv (Value.int .i64 (-1)) w2 rfl rfl rfl (x_assign rfl rfl) ?_
    refine wpR_nil ?_
    refine wpC_ret ?_
    exact ⟨.inl rfl, fun a ha => ⟨_, results_rep1 rfl ha rfl, (-1), rfl, h⟩⟩
  · replace h := h.2 hc13
    refine wpC_skip ?_
    refine wpC_seq ?_
    refine wpC_cut (fun ρ => ρ 1 = (Value.pointer (some (Addr.mk b9 0 none))) ∧ True) ⟨e1, trivial⟩ ?_
    rintro ρ ⟨e1, -⟩
    refine wpC_region ?_
    refine rv (Value.pointer (some ((Addr.mk b9 0 none).add 0))) w2 rfl rfl rfl (x_fieldAddr rfl e1 FA_38_0) ?_
    obtain ⟨x14, q14, h⟩ := h
    refine rv (Value.int .i64 x14) w2 rfl rfl rfl (x_load1 rfl rfl SH_3 q14) ?_
    refine rv (Value.int .i64 x14) w2 rfl rfl rfl (x_assign rfl rfl) ?_
    refine wpR_nil ?_
    refine wpC_ret ?_
    exact ⟨.inl rfl, fun a ha => ⟨_, results_rep1 rfl ha rfl, x14, rfl, h⟩⟩

/-- (*link.Receiver).Next -/
def F13 (p0 : Option Addr) (w0 : World) (K : Int → World → Prop) : Prop :=
  nn p0 fun a9 =>
  ld (Value.int .i64) (a9.add 1) w0 fun x10 =>
  K x10 w0
set_option maxRecDepth 100000 in
theorem D13 (p0 : Option Addr) (w0 : World) (K : Int → World → Prop) (h : F13 p0 w0 K) : callC Tryz.prog 13 #[(Value.pointer p0)] (fun (r : Int) => (Value.int .i64 r)) w0 K := by
  unfold F13 at h
  refine calls_of_wpC Tryz.func13 rfl 7 rfl (by simp) ?_
  intro ρ hρ
  have e0 : ρ 0 = (Value.pointer p0) := hρ 0
  clear hρ
  refine wpC_seq ?_
  refine wpC_region ?_
  refine rv (Value.int .i64 0) w0 rfl rfl rfl (x_assign rfl rfl) ?_
  refine wpR_nil ?_
  refine wpC_seq ?_
  refine wpC_cut (fun ρ => ρ 0 = (Value.pointer p0) ∧ True) ⟨e0, trivial⟩ ?_
  rintro ρ ⟨e0, -⟩
  refine wpC_region ?_
  refine rv (Value.pointer p0) w0 rfl rfl rfl (x_move rfl e0) ?_
  obtain ⟨a9, q9, h⟩ := h
  refine rv (Value.pointer (some a9)) w0 rfl rfl rfl (x_nilCheck rfl rfl q9) ?_
  refine rv (Value.pointer (some (a9.add 1))) w0 rfl rfl rfl (x_fieldAddr rfl rfl FA_80_1) ?_
  obtain ⟨x10, q10, h⟩ := h
  refine rv (Value.int .i64 x10) w0 rfl rfl rfl (x_load1 rfl rfl SH_3 q10) ?_
  refine rv (Value.int .i64 x10) w0 rfl rfl rfl (x_assign rfl rfl) ?_
  refine wpR_nil ?_
  refine wpC_ret ?_
  exact ⟨.inl rfl, fun a ha => ⟨_, results_rep1 rfl ha rfl, x10, rfl, h⟩⟩

/-- (*link.Sender).Frames -/
def F25 (p0 : Option Addr) (w0 : World) (K : Sl → World → Prop) : Prop :=
  jn (fun (J10 : (Int × Int) → World → Prop) => tk w0 fun w1 =>
    nn p0 fun a11 =>
    ld (Value.int .i64) (a11.add 0) w1 fun x12 =>
    callC Tryz.prog 12 #[(Value.pointer p0)] (fun (r : Int) => (Value.int .i64 r)) w1 fun r13 w2 =>
    (w2.cell? (a11.add 0) = some (Value.int .i64 x12)) ∧
    J10 (min x12 r13, 0) w2
  )
  fun l14 w3 =>
  lp (fun (next15 : (Sl × Int) → World → Prop) l15 w4 =>
    cnd (decide (l15.2 < l14.1))
      (
      nn p0 fun a17 =>
      ld (Value.int .i64) (a17.add 2) w4 fun x18 =>
      nw 3 #[(Value.int .i64 (IntKind.i64.wrap (x18 + l15.2)))] w4 fun b19 w5 =>
      rn Tryz.prog (Builtin.append_ #[39, 39] 39 #[Sl.v l15.1, Sl.v (⟨some ⟨b19, 0, none⟩, 1, 1⟩ : Sl)]) Sl.v w5 fun r20 w6 =>
      next15 (r20, IntKind.i64.wrap (l15.2 + 1)) w6
      )
      (
      K l15.1 w4
      )
  ) (Sl.nil, l14.2) w3
set_option maxRecDepth 100000 in
theorem D25 (p0 : Option Addr) (w0 : World) (K : Sl → World → Prop) (h : F25 p0 w0 K) : callC Tryz.prog 25 #[(Value.pointer p0)] (fun (r : Sl) => (Sl.v r)) w0 K := by
  unfold F25 at h
  refine calls_of_wpC Tryz.func25 rfl 26 rfl (by simp) ?_
  intro ρ hρ
  have e0 : ρ 0 = (Value.pointer p0) := hρ 0
  clear hρ
  refine wpC_seq ?_
  refine wpC_region ?_
  refine rv (Sl.v Sl.nil) w0 rfl rfl rfl (x_assign rfl rfl) ?_
  refine wpR_nil ?_
  refine wpC_seq ?_
  refine wpC_cut (fun ρ => ρ 0 = (Value.pointer p0) ∧ True) ⟨e0, trivial⟩ ?_
  rintro ρ ⟨e0, -⟩
  refine wpC_region ?_
  refine rv (Sl.v Sl.nil) w0 rfl rfl rfl (x_assign rfl rfl) ?_
  refine wpR_nil ?_
  refine wpC_seq ?_
  refine wpC_seq ?_
  refine wpC_cut (fun ρ => ρ 0 = (Value.pointer p0) ∧ ρ 3 = (Sl.v Sl.nil) ∧ True) ⟨e0, rfl, trivial⟩ ?_
  rintro ρ ⟨e0, e3, -⟩
  obtain ⟨J10, h, hk⟩ := h
  refine wpC_drawJ (by kernel_rfl) (fun (x : Int × Int) ρ => ρ 11 = (Value.int .i64 x.1) ∧ ρ 12 = (Value.int .i64 x.2) ∧ ρ 0 = (Value.pointer p0) ∧ ρ 3 = (Sl.v Sl.nil) ∧ True) J10 ?_ ?_
  · clear hk
    unfold tk at h
    generalize w0.drew = w1 at h ⊢
    refine wpD_take (v := (Value.pointer p0)) 0 (fun _ => True) rfl (by kernel_rfl) (by kernel_rfl) (by kernel_rfl) rfl rfl rfl trivial (fun w _ => (x_move (v := (Value.pointer p0)) rfl e0)) ?_
    obtain ⟨a11, q11, h⟩ := h
    refine wpD_take (v := (Value.pointer (some a11))) 1 (fun _ => True) rfl (by kernel_rfl) (by kernel_rfl) (by kernel_rfl) rfl rfl rfl trivial (fun w _ => (x_nilCheck rfl rfl q11)) ?_
    refine wpD_take (v := (Value.pointer (some (a11.add 0)))) 2 (fun _ => True) rfl (by kernel_rfl) (by kernel_rfl) (by kernel_rfl) rfl rfl rfl trivial (fun w _ => (x_fieldAddr rfl rfl FA_77_0)) ?_
    obtain ⟨x12, q12, h⟩ := h
    refine wpD_take (v := (Value.int .i64 x12)) 3 (fun w => w.cell? (a11.add 0) = some (Value.int .i64 x12)) rfl (by kernel_rfl) (by kernel_rfl) (by kernel_rfl) rfl rfl rfl q12 (fun w q12 => (x_load1 rfl rfl SH_3 q12)) ?_
    refine wpD_take (v := (Value.pointer p0)) 4 (fun _ => True) rfl (by kernel_rfl) (by kernel_rfl) (by kernel_rfl) rfl rfl rfl trivial (fun w _ => (x_move (v := (Value.pointer p0)) rfl e0)) ?_
    refine wpD_take (v := (Value.int .i64 0)) 7 (fun _ => True) rfl (by kernel_rfl) (by kernel_rfl) (by kernel_rfl) rfl rfl rfl trivial (fun w _ => (x_move (v := (Value.int .i64 0)) rfl rfl)) ?_
    refine wpD_all (rs := [5]) (by kernel_rfl) (by simp) (allD_cons ?_ allD_nil)
    refine stepD_enterL (L' := [(7, fun _ => True), (3, fun w => w.cell? (a11.add 0) = some (Value.int .i64 x12)), (2, fun _ => True), (1, fun _ => True), (0, fun _ => True)]) rfl rfl rfl rfl (x_call (vs := [(Value.pointer p0)]) rfl rfl (mapl_cons rfl mapl_nil) Tryz.func12 NN_12 NB_12) (by kernel_rfl) (Calls.mono h ?_)
    rintro _ w2 ⟨r13, rfl, h⟩
    obtain ⟨o3, h⟩ := h
    refine ⟨_, rfl, (held_cons trivial (held_cons o3 (held_cons trivial (held_cons trivial (held_cons trivial held_nil))))), ?_⟩
    refine wpD_take (v := (Value.int .i64 (min x12 r13))) 6 (fun _ => True) rfl (by kernel_rfl) (by kernel_rfl) (by kernel_rfl) rfl rfl rfl trivial (fun w _ => (x_min rfl rfl rfl)) ?_
    exact wpD_done (by kernel_rfl) ⟨(min x12 r13, 0), ⟨rfl, rfl, e0, e3, trivial⟩, h⟩
  clear h
  rintro l14 ρ w3 ⟨e11, e12, e0, e3, -⟩ h
  replace h := hk l14 w3 h
  clear hk
  refine wpC_block ?_
  obtain ⟨I15, μ15, hI15, hr15⟩ := h
  refine wpC_loop (fun (x : Sl × Int) ρ => ρ 3 = (Sl.v x.1) ∧ ρ 12 = (Value.int .i64 x.2) ∧ ρ 0 = (Value.pointer p0) ∧ ρ 11 = (Value.int .i64 l14.1) ∧ True) I15 μ15 (Sl.nil, l14.2) ⟨e3, e12, e0, e11, trivial⟩ hI15 ?_
  rintro l15 ρ w4 ⟨e3, e12, e0, e11, -⟩ h
  replace h := hr15 l15 w4 h
  clear hr15 hI15
  refine wpC_seq ?_
  refine wpC_region ?_
  refine rv (Value.bool (decide (l15.2 < l14.1))) w4 rfl rfl rfl (x_lss rfl e12 e11) ?_
  refine wpR_nil ?_
  refine wpC_seq ?_
  refine wpC_cond (b := decide (l15.2 < l14.1)) rfl (fun hc16 => ?_) (fun hc16 => ?_)
  · replace h := h.1 hc16
    refine wpC_skip ?_
    refine wpC_seq ?_
    refine wpC_block ?_
    refine wpC_seq ?_
    refine wpC_cut (fun ρ => ρ 0 = (Value.pointer p0) ∧ ρ 3 = (Sl.v l15.1) ∧ ρ 11 = (Value.int .i64 l14.1) ∧ ρ 12 = (Value.int .i64 l15.2) ∧ True) ⟨e0, e3, e11, e12, trivial⟩ ?_
    rintro ρ ⟨e0, e3, e11, e12, -⟩
    refine wpC_region ?_
    refine rv (Value.int .i64 l15.2) w4 rfl rfl rfl (x_move rfl e12) ?_
    refine rv (Value.int .i64 l15.2) w4 rfl rfl rfl (x_assign rfl rfl) ?_
    refine wpR_nil ?_
    refine wpC_cut (fun ρ => ρ 0 = (Value.pointer p0) ∧ ρ 3 = (Sl.v l15.1) ∧ ρ 4 = (Value.int .i64 l15.2) ∧ ρ 11 = (Value.int .i64 l14.1) ∧ ρ 12 = (Value.int .i64 l15.2) ∧ True) ⟨e0, e3, rfl, e11, e12, trivial⟩ ?_
    rintro ρ ⟨e0, e3, e4, e11, e12, -⟩
    refine wpC_region ?_
    refine rv (Sl.v l15.1) w4 rfl rfl rfl (x_move rfl e3) ?_
    refine rv (Value.pointer p0) w4 rfl rfl rfl (x_move rfl e0) ?_
    obtain ⟨a17, q17, h⟩ := h
    refine rv (Value.pointer (some a17)) w4 rfl rfl rfl (x_nilCheck rfl rfl q17) ?_
    refine rv (Value.pointer (some (a17.add 2))) w4 rfl rfl rfl (x_fieldAddr rfl rfl FA_77_2) ?_
    obtain ⟨x18, q18, h⟩ := h
    refine rv (Value.int .i64 x18) w4 rfl rfl rfl (x_load1 rfl rfl SH_3 q18) ?_
    refine rv (Value.int .i64 l15.2) w4 rfl rfl rfl (x_move rfl e4) ?_
    refine rv (Value.int .i64 (IntKind.i64.wrap (x18 + l15.2))) w4 rfl rfl rfl (x_add rfl rfl rfl) ?_
    obtain ⟨b19, hb19⟩ : ∃ u, u = w4.heap.size := ⟨_, rfl⟩
    obtain ⟨w5, hw19⟩ : ∃ u, u = w4.alloc (.cells #[(Value.int .i64 (IntKind.i64.wrap (x18 + l15.2)))] 3) := ⟨_, rfl⟩
    replace h := h b19 w5 hb19 hw19
    refine rv (Sl.v (⟨some ⟨b19, 0, none⟩, 1, 1⟩ : Sl)) w5 rfl rfl rfl ((x_buildSlice (qs := [(0, (Value.int .i64 (IntKind.i64.wrap (x18 + l15.2))))]) rfl (by rfl) (BS_39_1_0 (IntKind.i64.wrap (x18 + l15.2)))).trans (by rw [← hb19, ← hw19])) ?_
    obtain ⟨r20, w6, q20, h⟩ := h
    refine rv (Sl.v r20) w6 rfl rfl rfl (x_append (s := l15.1) (u := (⟨some ⟨b19, 0, none⟩, 1, 1⟩ : Sl)) rfl rfl rfl rfl q20) ?_
    refine rv (Sl.v r20) w6 rfl rfl rfl (x_assign rfl rfl) ?_
    refine wpR_nil ?_
    refine wpC_cut (fun ρ => ρ 0 = (Value.pointer p0) ∧ ρ 3 = (Sl.v r20) ∧ ρ 11 = (Value.int .i64 l14.1) ∧ ρ 12 = (Value.int .i64 l15.2) ∧ True) ⟨e0, rfl, e11, e12, trivial⟩ ?_
    rintro ρ ⟨e0, e3, e11, e12, -⟩
    refine wpC_region ?_
    refine rv (Value.int .i64 (IntKind.i64.wrap (l15.2 + 1))) w6 rfl rfl rfl (x_add rfl e12 rfl) ?_
    refine rv (Value.int .i64 (IntKind.i64.wrap (l15.2 + 1))) w6 rfl rfl rfl (x_move rfl rfl) ?_
    refine wpR_nil ?_
    exact ⟨(r20, IntKind.i64.wrap (l15.2 + 1)), ⟨e3, rfl, e0, e11, trivial⟩, h⟩
  · replace h := h.2 hc16
    refine wpC_exit ?_
    refine wpC_seq ?_
    refine wpC_cut (fun ρ => ρ 3 = (Sl.v l15.1) ∧ True) ⟨e3, trivial⟩ ?_
    rintro ρ ⟨e3, -⟩
    refine wpC_region ?_
    refine rv (Sl.v l15.1) w4 rfl rfl rfl (x_move rfl e3) ?_
    refine rv (Sl.v l15.1) w4 rfl rfl rfl (x_assign rfl rfl) ?_
    refine wpR_nil ?_
    refine wpC_ret ?_
    exact ⟨.inl rfl, fun a ha => ⟨_, results_rep1 rfl ha rfl, l15.1, rfl, h⟩⟩

/-- (*linguatop.deliverHop).deliverLost -/
def F26 (p0 : Option Addr) (w0 : World) (K : Bool → World → Prop) : Prop :=
  nn p0 fun a9 =>
  ld (Value.int .i64) (a9.add 3) w0 fun x10 =>
  nn p0 fun a11 =>
  st (a11.add 3) [(Value.int .i64 (IntKind.i64.wrap (x10 + 1)))] w0 fun w1 =>
  jn (fun (J14 : Bool → World → Prop) => tk w1 fun w2 =>
    nn p0 fun a15 =>
    ld (Value.int .i64) (a15.add 3) w2 fun x16 =>
    nn p0 fun a17 =>
    ld Sl.v (a17.add 2) w2 fun x18 =>
    J14 (decide ((x18.len : Int) < x16)) w2
  )
  fun l19 w3 =>
  cnd (l19)
    (
    K false w3
    )
    (
    jn (fun (J22 : Bool → World → Prop) => tk w3 fun w4 =>
      nn p0 fun a23 =>
      ld Sl.v (a23.add 2) w4 fun x24 =>
      nn p0 fun a25 =>
      ld (Value.int .i64) (a25.add 3) w4 fun x26 =>
      ix x24 (IntKind.i64.wrap (x26 - 1)) 1 fun p27 =>
      ld Value.bool p27 w4 fun x28 =>
      J22 x28 w4
    )
    fun l29 w5 =>
    K l29 w5
    )
set_option maxRecDepth 100000 in
theorem D26 (p0 : Option Addr) (w0 : World) (K : Bool → World → Prop) (h : F26 p0 w0 K) : callC Tryz.prog 26 #[(Value.pointer p0)] (fun (r : Bool) => (Value.bool r)) w0 K := by
  unfold F26 at h
  refine calls_of_wpC Tryz.func26 rfl 31 rfl (by simp) ?_
  intro ρ hρ
  have e0 : ρ 0 = (Value.pointer p0) := hρ 0
  clear hρ
  refine wpC_seq ?_
  refine wpC_region ?_
  refine rv (Value.bool false) w0 rfl rfl rfl (x_assign rfl rfl) ?_
  refine wpR_nil ?_
  refine wpC_seq ?_
  refine wpC_cut (fun ρ => ρ 0 = (Value.pointer p0) ∧ True) ⟨e0, trivial⟩ ?_
  rintro ρ ⟨e0, -⟩
  refine wpC_region ?_
  refine rv (Value.pointer p0) w0 rfl rfl rfl (x_move rfl e0) ?_
  obtain ⟨a9, q9, h⟩ := h
  refine rv (Value.pointer (some a9)) w0 rfl rfl rfl (x_nilCheck rfl rfl q9) ?_
  refine rv (Value.pointer (some (a9.add 3))) w0 rfl rfl rfl (x_fieldAddr rfl rfl FA_33_3) ?_
  obtain ⟨x10, q10, h⟩ := h
  refine rv (Value.int .i64 x10) w0 rfl rfl rfl (x_load1 rfl rfl SH_3 q10) ?_
  refine rv (Value.int .i64 (IntKind.i64.wrap (x10 + 1))) w0 rfl rfl rfl (x_add rfl rfl rfl) ?_
  obtain ⟨a11, q11, h⟩ := h
  refine rv (Value.pointer (some a11)) w0 rfl rfl rfl (x_nilCheck rfl rfl q11) ?_
  refine rv (Value.pointer (some (a11.add 3))) w0 rfl rfl rfl (x_fieldAddr rfl rfl FA_33_3) ?_
  obtain ⟨q12, h⟩ := h
  obtain ⟨w1, hw12⟩ : ∃ u, u = setAll w0 (a11.add 3) [(Value.int .i64 (IntKind.i64.wrap (x10 + 1)))] 0 := ⟨_, rfl⟩
  replace h := h w1 hw12
  refine wpR_skp (w' := w1) rfl rfl ((x_store (v := (Value.int .i64 (IntKind.i64.wrap (x10 + 1)))) rfl rfl rfl SZ_3 (ones (by rfl)) q12).trans (by rw [hw12]; rfl)) ?_
  refine wpR_nil ?_
  refine wpC_seq ?_
  refine wpC_seq ?_
  refine wpC_cut (fun ρ => ρ 0 = (Value.pointer p0) ∧ True) ⟨e0, trivial⟩ ?_
  rintro ρ ⟨e0, -⟩
  obtain ⟨J14, h, hk⟩ := h
  refine wpC_drawJ (by kernel_rfl) (fun (x : Bool) ρ => ρ 19 = (Value.bool x) ∧ ρ 0 = (Value.pointer p0) ∧ True) J14 ?_ ?_
  · clear hk
    unfold tk at h
    generalize w1.drew = w2 at h ⊢
    refine wpD_take (v := (Value.pointer p0)) 0 (fun _ => True) rfl (by kernel_rfl) (by kernel_rfl) (by kernel_rfl) rfl rfl rfl trivial (fun w _ => (x_move (v := (Value.pointer p0)) rfl e0)) ?_
    obtain ⟨a15, q15, h⟩ := h
    refine wpD_take (v := (Value.pointer (some a15))) 1 (fun _ => True) rfl (by kernel_rfl) (by kernel_rfl) (by kernel_rfl) rfl rfl rfl trivial (fun w _ => (x_nilCheck rfl rfl q15)) ?_
    refine wpD_take (v := (Value.pointer (some (a15.add 3)))) 2 (fun _ => True) rfl (by kernel_rfl) (by kernel_rfl) (by kernel_rfl) rfl rfl rfl trivial (fun w _ => (x_fieldAddr rfl rfl FA_33_3)) ?_
    obtain ⟨x16, q16, h⟩ := h
    refine wpD_take (v := (Value.int .i64 x16)) 3 (fun w => w.cell? (a15.add 3) = some (Value.int .i64 x16)) rfl (by kernel_rfl) (by kernel_rfl) (by kernel_rfl) rfl rfl rfl q16 (fun w q16 => (x_load1 rfl rfl SH_3 q16)) ?_
    refine wpD_take (v := (Value.pointer p0)) 4 (fun _ => True) rfl (by kernel_rfl) (by kernel_rfl) (by kernel_rfl) rfl rfl rfl trivial (fun w _ => (x_move (v := (Value.pointer p0)) rfl e0)) ?_
    obtain ⟨a17, q17, h⟩ := h
    refine wpD_take (v := (Value.pointer (some a17))) 5 (fun _ => True) rfl (by kernel_rfl) (by kernel_rfl) (by kernel_rfl) rfl rfl rfl trivial (fun w _ => (x_nilCheck rfl rfl q17)) ?_
    refine wpD_take (v := (Value.pointer (some (a17.add 2)))) 6 (fun _ => True) rfl (by kernel_rfl) (by kernel_rfl) (by kernel_rfl) rfl rfl rfl trivial (fun w _ => (x_fieldAddr rfl rfl FA_33_2)) ?_
    obtain ⟨x18, q18, h⟩ := h
    refine wpD_take (v := (Sl.v x18)) 7 (fun w => w.cell? (a17.add 2) = some (Sl.v x18)) rfl (by kernel_rfl) (by kernel_rfl) (by kernel_rfl) rfl rfl rfl q18 (fun w q18 => (x_load1 rfl rfl SH_22 q18)) ?_
    refine wpD_take (v := (Value.int .i64 (x18.len : Int))) 8 (fun _ => True) rfl (by kernel_rfl) (by kernel_rfl) (by kernel_rfl) rfl rfl rfl trivial (fun w _ => (x_lenS (s := x18) rfl rfl isSliceT_22)) ?_
    refine wpD_take (v := (Value.bool (decide ((x18.len : Int) < x16)))) 9 (fun _ => True) rfl (by kernel_rfl) (by kernel_rfl) (by kernel_rfl) rfl rfl rfl trivial (fun w _ => (x_gtr rfl rfl rfl)) ?_
    exact wpD_done (by kernel_rfl) ⟨decide ((x18.len : Int) < x16), ⟨rfl, e0, trivial⟩, h⟩
  clear h
  rintro l19 ρ w3 ⟨e19, e0, -⟩ h
  replace h := hk l19 w3 h
  clear hk
  refine wpC_cond (b := l19) e19 (fun hc20 => ?_) (fun hc20 => ?_)
  · replace h := h.1 hc20
    refine wpC_seq ?_
    refine wpC_region ?_
    refine rv (Value.bool false) w3 rfl rfl rfl (x_assign rfl rfl) ?_
    refine wpR_nil ?_
    refine wpC_ret ?_
    exact ⟨.inl rfl, fun a ha => ⟨_, results_rep1 rfl ha rfl, false, rfl, h⟩⟩
  · replace h := h.2 hc20
    refine wpC_skip ?_
    refine wpC_seq ?_
    obtain ⟨J22, h, hk⟩ := h
    refine wpC_drawJ (by kernel_rfl) (fun (x : Bool) ρ => ρ 2 = (Value.bool x) ∧ True) J22 ?_ ?_
    · clear hk
      unfold tk at h
      generalize w3.drew = w4 at h ⊢
      refine wpD_take (v := (Value.pointer p0)) 0 (fun _ => True) rfl (by kernel_rfl) (by kernel_rfl) (by kernel_rfl) rfl rfl rfl trivial (fun w _ => (x_move (v := (Value.pointer p0)) rfl e0)) ?_
      obtain ⟨a23, q23, h⟩ := h
      refine wpD_take (v := (Value.pointer (some a23))) 1 (fun _ => True) rfl (by kernel_rfl) (by kernel_rfl) (by kernel_rfl) rfl rfl rfl trivial (fun w _ => (x_nilCheck rfl rfl q23)) ?_
      refine wpD_take (v := (Value.pointer (some (a23.add 2)))) 2 (fun _ => True) rfl (by kernel_rfl) (by kernel_rfl) (by kernel_rfl) rfl rfl rfl trivial (fun w _ => (x_fieldAddr rfl rfl FA_33_2)) ?_
      obtain ⟨x24, q24, h⟩ := h
      refine wpD_take (v := (Sl.v x24)) 3 (fun w => w.cell? (a23.add 2) = some (Sl.v x24)) rfl (by kernel_rfl) (by kernel_rfl) (by kernel_rfl) rfl rfl rfl q24 (fun w q24 => (x_load1 rfl rfl SH_22 q24)) ?_
      refine wpD_take (v := (Value.pointer p0)) 4 (fun _ => True) rfl (by kernel_rfl) (by kernel_rfl) (by kernel_rfl) rfl rfl rfl trivial (fun w _ => (x_move (v := (Value.pointer p0)) rfl e0)) ?_
      obtain ⟨a25, q25, h⟩ := h
      refine wpD_take (v := (Value.pointer (some a25))) 5 (fun _ => True) rfl (by kernel_rfl) (by kernel_rfl) (by kernel_rfl) rfl rfl rfl trivial (fun w _ => (x_nilCheck rfl rfl q25)) ?_
      refine wpD_take (v := (Value.pointer (some (a25.add 3)))) 6 (fun _ => True) rfl (by kernel_rfl) (by kernel_rfl) (by kernel_rfl) rfl rfl rfl trivial (fun w _ => (x_fieldAddr rfl rfl FA_33_3)) ?_
      obtain ⟨x26, q26, h⟩ := h
      refine wpD_take (v := (Value.int .i64 x26)) 7 (fun w => w.cell? (a25.add 3) = some (Value.int .i64 x26)) rfl (by kernel_rfl) (by kernel_rfl) (by kernel_rfl) rfl rfl rfl q26 (fun w q26 => (x_load1 rfl rfl SH_3 q26)) ?_
      refine wpD_take (v := (Value.int .i64 (IntKind.i64.wrap (x26 - 1)))) 8 (fun _ => True) rfl (by kernel_rfl) (by kernel_rfl) (by kernel_rfl) rfl rfl rfl trivial (fun w _ => (x_sub rfl rfl rfl)) ?_
      obtain ⟨q27, z27, r27, h⟩ := h
      generalize hp27 : z27.add ((IntKind.i64.wrap (x26 - 1) : Int).toNat * 1) = p27 at h
      refine wpD_take (v := (Value.pointer (some p27))) 9 (fun _ => True) rfl (by kernel_rfl) (by kernel_rfl) (by kernel_rfl) rfl rfl rfl trivial (fun w _ => ((x_indexAddr (s := x24) rfl rfl rfl ES_22 q27 r27).trans (by rw [hp27]))) ?_
      obtain ⟨x28, q28, h⟩ := h
      refine wpD_take (v := (Value.bool x28)) 10 (fun w => w.cell? p27 = some (Value.bool x28)) rfl (by kernel_rfl) (by kernel_rfl) (by kernel_rfl) rfl rfl rfl q28 (fun w q28 => (x_load1 rfl rfl SH_4 q28)) ?_
      refine wpD_take (v := (Value.bool x28)) 11 (fun _ => True) rfl (by kernel_rfl) (by kernel_rfl) (by kernel_rfl) rfl rfl rfl trivial (fun w _ => (x_assign (v := (Value.bool x28)) rfl rfl)) ?_
      exact wpD_done (by kernel_rfl) ⟨x28, ⟨rfl, trivial⟩, h⟩
    clear h
    rintro l29 ρ w5 ⟨e2, -⟩ h
    replace h := hk l29 w5 h
    clear hk
    refine wpC_ret ?_
    exact ⟨.inl rfl, fun a ha => ⟨_, results_rep1 rfl ha e2, l29, rfl, h⟩⟩

/-- slices.Clone[[][2]int,[2]int] -/
def F27 (p0 : Sl) (w0 : World) (K : Sl → World → Prop) : Prop :=
  cnd (p0.a.isNone)
    (
    K Sl.nil w0
    )
    (
    nw 83 #[] w0 fun b10 w1 =>
    rn Tryz.prog (Builtin.append_ #[36, 36] 36 #[Sl.v (⟨some ⟨b10, 0, none⟩, 0, 0⟩ : Sl), Sl.v p0]) Sl.v w1 fun r11 w2 =>
    K r11 w2
    )
set_option maxRecDepth 100000 in
theorem D27 (p0 : Sl) (w0 : World) (K : Sl → World → Prop) (h : F27 p0 w0 K) : callC Tryz.prog 27 #[(Sl.v p0)] (fun (r : Sl) => (Sl.v r)) w0 K := by
  unfold F27 at h
  refine calls_of_wpC Tryz.func27 rfl 8 rfl (by simp) ?_
  intro ρ hρ
  have e0 : ρ 0 = (Sl.v p0) := hρ 0
  clear hρ
  refine wpC_seq ?_
  refine wpC_region ?_
  refine rv (Sl.v Sl.nil) w0 rfl rfl rfl (x_assign rfl rfl) ?_
  refine wpR_nil ?_
  refine wpC_seq ?_
  refine wpC_seq ?_
  refine wpC_cut (fun ρ => ρ 0 = (Sl.v p0) ∧ True) ⟨e0, trivial⟩ ?_
  rintro ρ ⟨e0, -⟩
  refine wpC_region ?_
  refine rv (Sl.v p0) w0 rfl rfl rfl (x_move rfl e0) ?_
  refine rv (Value.bool p0.a.isNone) w0 rfl rfl rfl (x_eqlNilS (s := p0) rfl rfl rfl isSliceT_36) ?_
  refine wpR_nil ?_
  refine wpC_cond (b := p0.a.isNone) rfl (fun hc9 => ?_) (fun hc9 => ?_)
  · replace h := h.1 hc9
    refine wpC_seq ?_
    refine wpC_cut (fun ρ => True) trivial ?_
    rintro ρ -
    refine wpC_region ?_
    refine rv (Sl.v Sl.nil) w0 rfl rfl rfl (x_assign rfl rfl) ?_
    refine wpR_nil ?_
    refine wpC_ret ?_
    exact ⟨.inl rfl, fun a ha => ⟨_, results_rep1 rfl ha rfl, Sl.nil, rfl, h⟩⟩
  · replace h := h.2 hc9
    refine wpC_skip ?_
    refine wpC_seq ?_
    refine wpC_cut (fun ρ => ρ 0 = (Sl.v p0) ∧ True) ⟨e0, trivial⟩ ?_
    rintro ρ ⟨e0, -⟩
    refine wpC_region ?_
    obtain ⟨b10, hb10⟩ : ∃ u, u = w0.heap.size := ⟨_, rfl⟩
    obtain ⟨w1, hw10⟩ : ∃ u, u = w0.alloc (.cells #[] 83) := ⟨_, rfl⟩
    replace h := h b10 w1 hb10 hw10
    refine rv (Sl.v (⟨some ⟨b10, 0, none⟩, 0, 0⟩ : Sl)) w1 rfl rfl rfl ((x_buildSlice (qs := []) rfl (by rfl) (BS_36_0_ )).trans (by rw [← hb10, ← hw10])) ?_
    refine rv (Sl.v p0) w1 rfl rfl rfl (x_move rfl e0) ?_
    obtain ⟨r11, w2, q11, h⟩ := h
    refine rv (Sl.v r11) w2 rfl rfl rfl (x_append (s := (⟨some ⟨b10, 0, none⟩, 0, 0⟩ : Sl)) (u := p0) rfl rfl rfl rfl q11) ?_
    refine rv (Sl.v r11) w2 rfl rfl rfl (x_assign rfl rfl) ?_
    refine wpR_nil ?_
    refine wpC_ret ?_
    exact ⟨.inl rfl, fun a ha => ⟨_, results_rep1 rfl ha rfl, r11, rfl, h⟩⟩

/-- once.Right -/
def F28 (p0_0 : Int) (p0_1 : Sl) (w0 : World) (K : Bool → World → Prop) : Prop :=
  nw 38 #[(Value.int .i64 p0_0), (Sl.v p0_1)] w0 fun b9 w1 =>
  ld (Value.int .i64) ((Addr.mk b9 0 none).add 0) w1 fun x10 =>
  ld Sl.v ((Addr.mk b9 0 none).add 1) w1 fun x11 =>
  lp (fun (next12 : (Int × Int) → World → Prop) l12 w2 =>
    cnd (decide (l12.2 < (x11.len : Int)))
      (
      ix x11 l12.2 2 fun p14 =>
      ld (Value.int .i64) (p14.add 0) w2 fun x15 =>
      ld (Value.int .i64) (p14.add 1) w2 fun x16 =>
      nw 83 #[(Value.int .i64 0), (Value.int .i64 0)] w2 fun b17 w3 =>
      st (Addr.mk b17 0 none) [(Value.int .i64 x15), (Value.int .i64 x16)] w3 fun w4 =>
      rn Tryz.prog (Instr.indexAt 83 (Value.pointer (some (Addr.mk b17 0 none))) (Value.int .i64 0)) (fun a : Addr => Value.pointer (some a)) w4 fun p19 w5 =>
      ld (Value.int .i64) p19 w5 fun x20 =>
      jn (fun J21 => cnd (decide (x20 ≤ l12.1))
        (
        J21 true w5
        )
        (
        rn Tryz.prog (Instr.indexAt 83 (Value.pointer (some (Addr.mk b17 0 none))) (Value.int .i64 0)) (fun a : Addr => Value.pointer (some a)) w5 fun p23 w6 =>
        ld (Value.int .i64) p23 w6 fun x24 =>
        rn Tryz.prog (Instr.indexAt 83 (Value.pointer (some (Addr.mk b17 0 none))) (Value.int .i64 1)) (fun a : Addr => Value.pointer (some a)) w6 fun p25 w7 =>
        ld (Value.int .i64) p25 w7 fun x26 =>
        J21 (decide (x26 ≤ x24)) w7
        ))
      fun c27 w8 =>
      cnd (c27)
        (
        K false w8
        )
        (
        rn Tryz.prog (Instr.indexAt 83 (Value.pointer (some (Addr.mk b17 0 none))) (Value.int .i64 1)) (fun a : Addr => Value.pointer (some a)) w8 fun p29 w9 =>
        ld (Value.int .i64) p29 w9 fun x30 =>
        next12 (x30, IntKind.i64.wrap (l12.2 + 1)) w9
        )
      )
      (
      ld (Value.int .i64) ((Addr.mk b9 0 none).add 0) w2 fun x31 =>
      jp (fun J32 => cnd (decide (0 ≤ x31))
        (
        ld (Value.int .i64) ((Addr.mk b9 0 none).add 0) w2 fun x34 =>
        J32 (decide (x34 ≤ 1099511627776))
        )
        (
        J32 false
        ))
      fun c35 =>
      K (c35 && (decide (l12.1 ≤ 1099511627776))) w2
      )
  ) (x10, 0) w1
set_option maxRecDepth 100000 in
theorem D28 (p0_0 : Int) (p0_1 : Sl) (w0 : World) (K : Bool → World → Prop) (h : F28 p0_0 p0_1 w0 K) : callC Tryz.prog 28 #[(Value.agg #[(Value.int .i64 p0_0), (Sl.v p0_1)])] (fun (r : Bool) => (Value.bool r)) w0 K := by
  unfold F28 at h
  refine calls_of_wpC Tryz.func28 rfl 41 rfl (by simp) ?_
  intro ρ hρ
  have e0 : ρ 0 = (Value.agg #[(Value.int .i64 p0_0), (Sl.v p0_1)]) := hρ 0
  clear hρ
  refine wpC_seq ?_
  refine wpC_region ?_
  obtain ⟨b9, hb9⟩ : ∃ u, u = w0.heap.size := ⟨_, rfl⟩
  obtain ⟨w1, hw9⟩ : ∃ u, u = w0.alloc (.cells #[(Value.int .i64 p0_0), (Sl.v p0_1)] 38) := ⟨_, rfl⟩
  replace h := h b9 w1 hb9 hw9
  refine rv (Value.pointer (some (Addr.mk b9 0 none))) w1 rfl rfl rfl ((x_box (v := (Value.agg #[(Value.int .i64 p0_0), (Sl.v p0_1)])) rfl e0).trans (by rw [hb9, hw9]; rfl)) ?_
  refine rv (Value.bool false) w1 rfl rfl rfl (x_assign rfl rfl) ?_
  refine wpR_nil ?_
  refine wpC_seq ?_
  refine wpC_cut (fun ρ => ρ 1 = (Value.pointer (some (Addr.mk b9 0 none))) ∧ True) ⟨rfl, trivial⟩ ?_
  rintro ρ ⟨e1, -⟩
  refine wpC_region ?_
  refine rv (Value.pointer (some ((Addr.mk b9 0 none).add 0))) w1 rfl rfl rfl (x_fieldAddr rfl e1 FA_38_0) ?_
  obtain ⟨x10, q10, h⟩ := h
  refine rv (Value.int .i64 x10) w1 rfl rfl rfl (x_load1 rfl rfl SH_3 q10) ?_
  refine rv (Value.int .i64 x10) w1 rfl rfl rfl (x_assign rfl rfl) ?_
  refine wpR_nil ?_
  refine wpC_seq ?_
  refine wpC_seq ?_
  refine wpC_cut (fun ρ => ρ 1 = (Value.pointer (some (Addr.mk b9 0 none))) ∧ ρ 3 = (Value.int .i64 x10) ∧ True) ⟨e1, rfl, trivial⟩ ?_
  rintro ρ ⟨e1, e3, -⟩
  refine wpC_region ?_
  refine rv (Value.pointer (some ((Addr.mk b9 0 none).add 1))) w1 rfl rfl rfl (x_fieldAddr rfl e1 FA_38_1) ?_
  obtain ⟨x11, q11, h⟩ := h
  refine rv (Sl.v x11) w1 rfl rfl rfl (x_load1 rfl rfl SH_36 q11) ?_
  refine rv (Value.int .i64 (x11.len : Int)) w1 rfl rfl rfl (x_lenS (s := x11) rfl rfl isSliceT_36) ?_
  refine rv (Value.int .i64 0) w1 rfl rfl rfl (x_move rfl rfl) ?_
  refine wpR_nil ?_
  refine wpC_block ?_
  obtain ⟨I12, μ12, hI12, hr12⟩ := h
  refine wpC_loop (fun (x : Int × Int) ρ => ρ 3 = (Value.int .i64 x.1) ∧ ρ 11 = (Value.int .i64 x.2) ∧ ρ 1 = (Value.pointer (some (Addr.mk b9 0 none))) ∧ ρ 9 = (Sl.v x11) ∧ ρ 10 = (Value.int .i64 (x11.len : Int)) ∧ True) I12 μ12 (x10, 0) ⟨e3, rfl, e1, rfl, rfl, trivial⟩ hI12 ?_
  rintro l12 ρ w2 ⟨e3, e11, e1, e9, e10, -⟩ h
  replace h := hr12 l12 w2 h
  clear hr12 hI12
  refine wpC_seq ?_
  refine wpC_region ?_
  refine rv (Value.bool (decide (l12.2 < (x11.len : Int)))) w2 rfl rfl rfl (x_lss rfl e11 e10) ?_
  refine wpR_nil ?_
  refine wpC_seq ?_
  refine wpC_cond (b := decide (l12.2 < (x11.len : Int))) rfl (fun hc13 => ?_) (fun hc13 => ?_)
  · replace h := h.1 hc13
    refine wpC_skip ?_
    refine wpC_seq ?_
    refine wpC_block ?_
    refine wpC_seq ?_
    refine wpC_cut (fun ρ => ρ 1 = (Value.pointer (some (Addr.mk b9 0 none))) ∧ ρ 3 = (Value.int .i64 l12.1) ∧ ρ 9 = (Sl.v x11) ∧ ρ 10 = (Value.int .i64 (x11.len : Int)) ∧ ρ 11 = (Value.int .i64 l12.2) ∧ True) ⟨e1, e3, e9, e10, e11, trivial⟩ ?_
    rintro ρ ⟨e1, e3, e9, e10, e11, -⟩
    refine wpC_region ?_
    obtain ⟨q14, z14, r14, h⟩ := h
    generalize hp14 : z14.add ((l12.2 : Int).toNat * 2) = p14 at h
    refine rv (Value.pointer (some p14)) w2 rfl rfl rfl ((x_indexAddr (s := x11) rfl e9 e11 ES_36 q14 r14).trans (by rw [hp14])) ?_
    obtain ⟨x15, q15, x16, q16, h⟩ := h
    refine rv (Value.agg #[(Value.int .i64 x15), (Value.int .i64 x16)]) w2 rfl rfl rfl (x_loadN [(Value.int .i64 x15), (Value.int .i64 x16)] rfl rfl SH_83 (CellsAt.out (CellsAt.cons q15 (CellsAt.cons q16 CellsAt.nil)))) ?_
    obtain ⟨b17, hb17⟩ : ∃ u, u = w2.heap.size := ⟨_, rfl⟩
    obtain ⟨w3, hw17⟩ : ∃ u, u = w2.alloc (.cells #[(Value.int .i64 0), (Value.int .i64 0)] 83) := ⟨_, rfl⟩
    replace h := h b17 w3 hb17 hw17
    refine rv (Value.pointer (some (Addr.mk b17 0 none))) w3 rfl rfl rfl ((x_alloc rfl ZV_83).trans (by rw [hb17, hw17]; rfl)) ?_
    obtain ⟨q18, h⟩ := h
    obtain ⟨w4, hw18⟩ : ∃ u, u = setAll w3 (Addr.mk b17 0 none) [(Value.int .i64 x15), (Value.int .i64 x16)] 0 := ⟨_, rfl⟩
    replace h := h w4 hw18
    refine wpR_skp (w' := w4) rfl rfl ((x_store (v := (Value.agg #[(Value.int .i64 x15), (Value.int .i64 x16)])) rfl rfl rfl SZ_83 (ones (by rfl)) q18).trans (by rw [hw18]; rfl)) ?_
    refine wpR_nil ?_
    refine wpC_seq ?_
    refine wpC_seq ?_
    refine wpC_cut (fun ρ => ρ 1 = (Value.pointer (some (Addr.mk b9 0 none))) ∧ ρ 3 = (Value.int .i64 l12.1) ∧ ρ 5 = (Value.pointer (some (Addr.mk b17 0 none))) ∧ ρ 9 = (Sl.v x11) ∧ ρ 10 = (Value.int .i64 (x11.len : Int)) ∧ ρ 11 = (Value.int .i64 l12.2) ∧ True) ⟨e1, e3, rfl, e9, e10, e11, trivial⟩ ?_
    rintro ρ ⟨e1, e3, e5, e9, e10, e11, -⟩
    refine wpC_region ?_
    obtain ⟨p19, w5, q19, h⟩ := h
    refine rv (Value.pointer (some p19)) w5 rfl rfl rfl (x_indexAt rfl e5 rfl q19) ?_
    obtain ⟨x20, q20, h⟩ := h
    refine rv (Value.int .i64 x20) w5 rfl rfl rfl (x_load1 rfl rfl SH_3 q20) ?_
    refine rv (Value.int .i64 l12.1) w5 rfl rfl rfl (x_move rfl e3) ?_
    refine rv (Value.bool (decide (x20 ≤ l12.1))) w5 rfl rfl rfl (x_leq rfl rfl rfl) ?_
    refine rv (Value.bool (decide (x20 ≤ l12.1))) w5 rfl rfl rfl (x_move rfl rfl) ?_
    obtain ⟨J21, h, hk⟩ := h
    refine wpR_joinJ 6 (fun x ρ => ρ 25 = Value.bool x ∧ ρ 1 = (Value.pointer (some (Addr.mk b9 0 none))) ∧ ρ 5 = (Value.pointer (some (Addr.mk b17 0 none))) ∧ ρ 9 = (Sl.v x11) ∧ ρ 10 = (Value.int .i64 (x11.len : Int)) ∧ ρ 11 = (Value.int .i64 l12.2) ∧ True) (J21) ?_ ?_
    · clear hk
      rcases Bool.eq_false_or_eq_true (decide (x20 ≤ l12.1)) with hc22 | hc22
      · replace h := h.1 hc22
        refine wpR_pass (wantN rfl rfl rfl hc22) rfl rfl ?_
        refine wpR_pass (wantN rfl rfl rfl hc22) rfl rfl ?_
        refine wpR_pass (wantN rfl rfl rfl hc22) rfl rfl ?_
        refine wpR_pass (wantN rfl rfl rfl hc22) rfl rfl ?_
        refine wpR_pass (wantN rfl rfl rfl hc22) rfl rfl ?_
        refine rv (Value.bool true) w5 rfl rfl rfl (x_pickT (v := (Value.bool true)) rfl rfl hc22 rfl) ?_
        refine wpR_nil ?_
        exact ⟨true, ⟨rfl, e1, e5, e9, e10, e11, trivial⟩, h⟩
      · replace h := h.2 hc22
        obtain ⟨p23, w6, q23, h⟩ := h
        refine wpR_val (v := (Value.pointer (some p23))) (w' := w6) (wantG rfl rfl rfl hc22) rfl rfl (x_indexAt rfl e5 rfl q23) ?_
        obtain ⟨x24, q24, h⟩ := h
        refine wpR_val (v := (Value.int .i64 x24)) (w' := w6) (wantG rfl rfl rfl hc22) rfl rfl (x_load1 rfl rfl SH_3 q24) ?_
        obtain ⟨p25, w7, q25, h⟩ := h
        refine wpR_val (v := (Value.pointer (some p25))) (w' := w7) (wantG rfl rfl rfl hc22) rfl rfl (x_indexAt rfl e5 rfl q25) ?_
        obtain ⟨x26, q26, h⟩ := h
        refine wpR_val (v := (Value.int .i64 x26)) (w' := w7) (wantG rfl rfl rfl hc22) rfl rfl (x_load1 rfl rfl SH_3 q26) ?_
        refine wpR_val (v := (Value.bool (decide (x26 ≤ x24)))) (w' := w7) (wantG rfl rfl rfl hc22) rfl rfl (x_geq rfl rfl rfl) ?_
        refine rv (Value.bool (decide (x26 ≤ x24))) w7 rfl rfl rfl (x_pickF (v := (Value.bool (decide (x26 ≤ x24)))) rfl rfl hc22 rfl) ?_
        refine wpR_nil ?_
        exact ⟨decide (x26 ≤ x24), ⟨rfl, e1, e5, e9, e10, e11, trivial⟩, h⟩
    clear h
    rintro c27 ρ w8 ⟨e25, e1, e5, e9, e10, e11, -⟩ h
    replace h := hk c27 w8 h
    clear hk
    refine wpR_nil ?_
    refine wpC_cond (b := c27) e25 (fun hc28 => ?_) (fun hc28 => ?_)
    · replace h := h.1 hc28
      refine wpC_seq ?_
      refine wpC_region ?_
      refine rv (Value.bool false) w8 rfl rfl rfl (x_assign rfl rfl) ?_
      refine wpR_nil ?_
      refine wpC_ret ?_
      exact ⟨.inl rfl, fun a ha => ⟨_, results_rep1 rfl ha rfl, false, rfl, h⟩⟩
    · replace h := h.2 hc28
      refine wpC_skip ?_
      refine wpC_region ?_
      obtain ⟨p29, w9, q29, h⟩ := h
      refine rv (Value.pointer (some p29)) w9 rfl rfl rfl (x_indexAt rfl e5 rfl q29) ?_
      obtain ⟨x30, q30, h⟩ := h
      refine rv (Value.int .i64 x30) w9 rfl rfl rfl (x_load1 rfl rfl SH_3 q30) ?_
      refine rv (Value.int .i64 x30) w9 rfl rfl rfl (x_assign rfl rfl) ?_
      refine wpR_nil ?_
      refine wpC_cut (fun ρ => ρ 1 = (Value.pointer (some (Addr.mk b9 0 none))) ∧ ρ 3 = (Value.int .i64 x30) ∧ ρ 9 = (Sl.v x11) ∧ ρ 10 = (Value.int .i64 (x11.len : Int)) ∧ ρ 11 = (Value.int .i64 l12.2) ∧ True) ⟨e1, rfl, e9, e10, e11, trivial⟩ ?_
      rintro ρ ⟨e1, e3, e9, e10, e11, -⟩
      refine wpC_region ?_
      refine rv (Value.int .i64 (IntKind.i64.wrap (l12.2 + 1))) w9 rfl rfl rfl (x_add rfl e11 rfl) ?_
      refine rv (Value.int .i64 (IntKind.i64.wrap (l12.2 + 1))) w9 rfl rfl rfl (x_move rfl rfl) ?_
      refine wpR_nil ?_
      exact ⟨(x30, IntKind.i64.wrap (l12.2 + 1)), ⟨e3, rfl, e1, e9, e10, trivial⟩, h⟩
  · replace h := h.2 hc13
    refine wpC_exit ?_
    refine wpC_seq ?_
    refine wpC_cut (fun ρ => ρ 1 = (Value.pointer (some (Addr.mk b9 0 none))) ∧ ρ 3 = (Value.int .i64 l12.1) ∧ True) ⟨e1, e3, trivial⟩ ?_
    rintro ρ ⟨e1, e3, -⟩
    refine wpC_region ?_
    refine rv (Value.pointer (some ((Addr.mk b9 0 none).add 0))) w2 rfl rfl rfl (x_fieldAddr rfl e1 FA_38_0) ?_
    obtain ⟨x31, q31, h⟩ := h
    refine rv (Value.int .i64 x31) w2 rfl rfl rfl (x_load1 rfl rfl SH_3 q31) ?_
    refine rv (Value.bool (decide (0 ≤ x31))) w2 rfl rfl rfl (x_geq rfl rfl rfl) ?_
    refine rv (Value.bool (decide (0 ≤ x31))) w2 rfl rfl rfl (x_move rfl rfl) ?_
    obtain ⟨J32, h, hk⟩ := h
    refine wpR_joinJ 4 (fun x ρ => ρ 36 = Value.bool x ∧ ρ 3 = (Value.int .i64 l12.1) ∧ True) (fun x w => J32 x ∧ w2 = w) ?_ ?_
    · clear hk
      rcases Bool.eq_false_or_eq_true (decide (0 ≤ x31)) with hc33 | hc33
      · replace h := h.1 hc33
        refine wpR_val (v := (Value.pointer (some ((Addr.mk b9 0 none).add 0)))) (w' := w2) (wantG rfl rfl rfl hc33) rfl rfl (x_fieldAddr rfl e1 FA_38_0) ?_
        obtain ⟨x34, q34, h⟩ := h
        refine wpR_val (v := (Value.int .i64 x34)) (w' := w2) (wantG rfl rfl rfl hc33) rfl rfl (x_load1 rfl rfl SH_3 q34) ?_
        refine wpR_val (v := (Value.bool (decide (x34 ≤ 1099511627776)))) (w' := w2) (wantG rfl rfl rfl hc33) rfl rfl (x_leq rfl rfl rfl) ?_
        refine rv (Value.bool (decide (x34 ≤ 1099511627776))) w2 rfl rfl rfl (x_pickT (v := (Value.bool (decide (x34 ≤ 1099511627776)))) rfl rfl hc33 rfl) ?_
        refine wpR_nil ?_
        exact ⟨decide (x34 ≤ 1099511627776), ⟨rfl, e3, trivial⟩, h, rfl⟩
      · replace h := h.2 hc33
        refine wpR_pass (wantN rfl rfl rfl hc33) rfl rfl ?_
        refine wpR_pass (wantN rfl rfl rfl hc33) rfl rfl ?_
        refine wpR_pass (wantN rfl rfl rfl hc33) rfl rfl ?_
        refine rv (Value.bool false) w2 rfl rfl rfl (x_pickF (v := (Value.bool false)) rfl rfl hc33 rfl) ?_
        refine wpR_nil ?_
        exact ⟨false, ⟨rfl, e3, trivial⟩, h, rfl⟩
    clear h
    rintro c35 ρ wj ⟨e36, e3, -⟩ ⟨h, rfl⟩
    replace h := hk c35 h
    clear hk
    refine rv (Value.bool c35) w2 rfl rfl rfl (x_move rfl e36) ?_
    refine wpR_joinJ 3 (fun (_ : Unit) ρ => ρ 40 = Value.bool (c35 && (decide (l12.1 ≤ 1099511627776))) ∧ True) (fun _ w => w2 = w) ?_ ?_
    · clear h
      rcases Bool.eq_false_or_eq_true (c35) with hc37 | hc37
      · skip
        refine wpR_val (v := (Value.int .i64 l12.1)) (w' := w2) (wantG rfl rfl rfl hc37) rfl rfl (x_move rfl e3) ?_
        refine wpR_val (v := (Value.bool (decide (l12.1 ≤ 1099511627776)))) (w' := w2) (wantG rfl rfl rfl hc37) rfl rfl (x_leq rfl rfl rfl) ?_
        refine rv (Value.bool (decide (l12.1 ≤ 1099511627776))) w2 rfl rfl rfl (x_pickT (v := (Value.bool (decide (l12.1 ≤ 1099511627776)))) rfl rfl hc37 rfl) ?_
        refine wpR_nil ?_
        exact ⟨(), ⟨(by rw [hc37]; rfl), trivial⟩, rfl⟩
      · skip
        refine wpR_pass (wantN rfl rfl rfl hc37) rfl rfl ?_
        refine wpR_pass (wantN rfl rfl rfl hc37) rfl rfl ?_
        refine rv (Value.bool false) w2 rfl rfl rfl (x_pickF (v := (Value.bool false)) rfl rfl hc37 rfl) ?_
        refine wpR_nil ?_
        exact ⟨(), ⟨(by rw [hc37]; rfl), trivial⟩, rfl⟩
    rintro _ ρ wj ⟨e40, -⟩ rfl
    refine rv (Value.bool (c35 && (decide (l12.1 ≤ 1099511627776)))) w2 rfl rfl rfl (x_assign rfl e40) ?_
    refine wpR_nil ?_
    refine wpC_ret ?_
    exact ⟨.inl rfl, fun a ha => ⟨_, results_rep1 rfl ha rfl, c35 && (decide (l12.1 ≤ 1099511627776)), rfl, h⟩⟩

/-- once.Has -/
def F29 (p0_0 : Int) (p0_1 : Sl) (p1 : Int) (w0 : World) (K : Bool → World → Prop) : Prop :=
  nw 38 #[(Value.int .i64 p0_0), (Sl.v p0_1)] w0 fun b9 w1 =>
  ld (Value.int .i64) ((Addr.mk b9 0 none).add 0) w1 fun x10 =>
  ld Sl.v ((Addr.mk b9 0 none).add 1) w1 fun x11 =>
  callC Tryz.prog 28 #[(Value.agg #[(Value.int .i64 x10), (Sl.v x11)])] (fun (r : Bool) => (Value.bool r)) w1 fun r12 w2 =>
  cnd (!r12)
    (
    K false w2
    )
    (
    ld (Value.int .i64) ((Addr.mk b9 0 none).add 0) w2 fun x14 =>
    ld Sl.v ((Addr.mk b9 0 none).add 1) w2 fun x15 =>
    callC Tryz.prog 30 #[(Value.agg #[(Value.int .i64 x14), (Sl.v x15)]), (Value.int .i64 p1)] (fun (r : Int) => (Value.int .i64 r)) w2 fun r16 w3 =>
    ld (Value.int .i64) ((Addr.mk b9 0 none).add 0) w3 fun x17 =>
    jn (fun J18 => cnd (decide (p1 < x17))
      (
      J18 true w3
      )
      (
      ld Sl.v ((Addr.mk b9 0 none).add 1) w3 fun x20 =>
      jn (fun J21 => cnd (decide (r16 < (x20.len : Int)))
        (
        ld Sl.v ((Addr.mk b9 0 none).add 1) w3 fun x23 =>
        ix x23 r16 2 fun p24 =>
        rn Tryz.prog (Instr.indexAt 83 (Value.pointer (some p24)) (Value.int .i64 0)) (fun a : Addr => Value.pointer (some a)) w3 fun p25 w4 =>
        ld (Value.int .i64) p25 w4 fun x26 =>
        J21 (decide (x26 ≤ p1)) w4
        )
        (
        J21 false w3
        ))
      fun c27 w5 =>
      J18 c27 w5
      ))
    fun c28 w6 =>
    K c28 w6
    )
set_option maxRecDepth 100000 in
theorem D29 (p0_0 : Int) (p0_1 : Sl) (p1 : Int) (w0 : World) (K : Bool → World → Prop) (h : F29 p0_0 p0_1 p1 w0 K) : callC Tryz.prog 29 #[(Value.agg #[(Value.int .i64 p0_0), (Sl.v p0_1)]), (Value.int .i64 p1)] (fun (r : Bool) => (Value.bool r)) w0 K := by
  unfold F29 at h
  refine calls_of_wpC Tryz.func29 rfl 33 rfl (by simp) ?_
  intro ρ hρ
  have e0 : ρ 0 = (Value.agg #[(Value.int .i64 p0_0), (Sl.v p0_1)]) := hρ 0
  have e1 : ρ 1 = (Value.int .i64 p1) := hρ 1
  clear hρ
  refine wpC_seq ?_
  refine wpC_region ?_
  obtain ⟨b9, hb9⟩ : ∃ u, u = w0.heap.size := ⟨_, rfl⟩
  obtain ⟨w1, hw9⟩ : ∃ u, u = w0.alloc (.cells #[(Value.int .i64 p0_0), (Sl.v p0_1)] 38) := ⟨_, rfl⟩
  replace h := h b9 w1 hb9 hw9
  refine rv (Value.pointer (some (Addr.mk b9 0 none))) w1 rfl rfl rfl ((x_box (v := (Value.agg #[(Value.int .i64 p0_0), (Sl.v p0_1)])) rfl e0).trans (by rw [hb9, hw9]; rfl)) ?_
  refine rv (Value.bool false) w1 rfl rfl rfl (x_assign rfl rfl) ?_
  refine wpR_nil ?_
  refine wpC_seq ?_
  refine wpC_seq ?_
  refine wpC_cut (fun ρ => ρ 1 = (Value.int .i64 p1) ∧ ρ 2 = (Value.pointer (some (Addr.mk b9 0 none))) ∧ True) ⟨e1, rfl, trivial⟩ ?_
  rintro ρ ⟨e1, e2, -⟩
  refine wpC_region ?_
  obtain ⟨x10, q10, x11, q11, h⟩ := h
  refine rv (Value.agg #[(Value.int .i64 x10), (Sl.v x11)]) w1 rfl rfl rfl (x_loadN [(Value.int .i64 x10), (Sl.v x11)] rfl e2 SH_38 (CellsAt.out (CellsAt.cons q10 (CellsAt.cons q11 CellsAt.nil)))) ?_
  refine wpR_enter rfl rfl rfl (x_call (vs := [(Value.agg #[(Value.int .i64 x10), (Sl.v x11)])]) rfl rfl (mapl_cons rfl mapl_nil) Tryz.func28 NN_28 NB_28) (Calls.mono h ?_)
  rintro _ w2 ⟨r12, rfl, h⟩
  refine ⟨_, rfl, ?_⟩
  refine rv (Value.bool (!r12)) w2 rfl rfl rfl (x_not rfl rfl) ?_
  refine wpR_nil ?_
  refine wpC_cond (b := !r12) rfl (fun hc13 => ?_) (fun hc13 => ?_)
  · replace h := h.1 hc13
    refine wpC_seq ?_
    refine wpC_cut (fun ρ => True) trivial ?_
    rintro ρ -
    refine wpC_region ?_
    refine rv (Value.bool false) w2 rfl rfl rfl (x_assign rfl rfl) ?_
    refine wpR_nil ?_
    refine wpC_ret ?_
    exact ⟨.inl rfl, fun a ha => ⟨_, results_rep1 rfl ha rfl, false, rfl, h⟩⟩
  · replace h := h.2 hc13
    refine wpC_skip ?_
    refine wpC_seq ?_
    refine wpC_cut (fun ρ => ρ 1 = (Value.int .i64 p1) ∧ ρ 2 = (Value.pointer (some (Addr.mk b9 0 none))) ∧ True) ⟨e1, e2, trivial⟩ ?_
    rintro ρ ⟨e1, e2, -⟩
    refine wpC_region ?_
    obtain ⟨x14, q14, x15, q15, h⟩ := h
    refine rv (Value.agg #[(Value.int .i64 x14), (Sl.v x15)]) w2 rfl rfl rfl (x_loadN [(Value.int .i64 x14), (Sl.v x15)] rfl e2 SH_38 (CellsAt.out (CellsAt.cons q14 (CellsAt.cons q15 CellsAt.nil)))) ?_
    refine rv (Value.int .i64 p1) w2 rfl rfl rfl (x_move rfl e1) ?_
    refine wpR_enter rfl rfl rfl (x_call (vs := [(Value.agg #[(Value.int .i64 x14), (Sl.v x15)]), (Value.int .i64 p1)]) rfl rfl (mapl_cons rfl (mapl_cons rfl mapl_nil)) Tryz.func30 NN_30 NB_30) (Calls.mono h ?_)
    rintro _ w3 ⟨r16, rfl, h⟩
    refine ⟨_, rfl, ?_⟩
    refine rv (Value.int .i64 r16) w3 rfl rfl rfl (x_assign rfl rfl) ?_
    refine wpR_nil ?_
    refine wpC_seq ?_
    refine wpC_cut (fun ρ => ρ 1 = (Value.int .i64 p1) ∧ ρ 2 = (Value.pointer (some (Addr.mk b9 0 none))) ∧ ρ 5 = (Value.int .i64 r16) ∧ True) ⟨e1, e2, rfl, trivial⟩ ?_
    rintro ρ ⟨e1, e2, e5, -⟩
    refine wpC_region ?_
    refine rv (Value.int .i64 p1) w3 rfl rfl rfl (x_move rfl e1) ?_
    refine rv (Value.pointer (some ((Addr.mk b9 0 none).add 0))) w3 rfl rfl rfl (x_fieldAddr rfl e2 FA_38_0) ?_
    obtain ⟨x17, q17, h⟩ := h
    refine rv (Value.int .i64 x17) w3 rfl rfl rfl (x_load1 rfl rfl SH_3 q17) ?_
    refine rv (Value.bool (decide (p1 < x17))) w3 rfl rfl rfl (x_lss rfl rfl rfl) ?_
    refine rv (Value.bool (decide (p1 < x17))) w3 rfl rfl rfl (x_move rfl rfl) ?_
    obtain ⟨J18, h, hk⟩ := h
    refine wpR_joinJ 16 (fun x ρ => ρ 32 = Value.bool x ∧ True) (J18) ?_ ?_
    · clear hk
      rcases Bool.eq_false_or_eq_true (decide (p1 < x17)) with hc19 | hc19
      · replace h := h.1 hc19
        refine wpR_pass (wantN rfl rfl rfl hc19) rfl rfl ?_
        refine wpR_pass (wantN rfl rfl rfl hc19) rfl rfl ?_
        refine wpR_pass (wantN rfl rfl rfl hc19) rfl rfl ?_
        refine wpR_pass (wantN rfl rfl rfl hc19) rfl rfl ?_
        refine wpR_pass (wantN rfl rfl rfl hc19) rfl rfl ?_
        refine wpR_pass (wantN rfl rfl rfl hc19) rfl rfl ?_
        refine wpR_pass (wantU rfl rfl rfl) rfl rfl ?_
        refine wpR_pass (wantU rfl rfl rfl) rfl rfl ?_
        refine wpR_pass (wantU rfl rfl rfl) rfl rfl ?_
        refine wpR_pass (wantU rfl rfl rfl) rfl rfl ?_
        refine wpR_pass (wantU rfl rfl rfl) rfl rfl ?_
        refine wpR_pass (wantU rfl rfl rfl) rfl rfl ?_
        refine wpR_pass (wantU rfl rfl rfl) rfl rfl ?_
        refine wpR_pass (wantU rfl rfl rfl) rfl rfl ?_
        refine wpR_pass (wantN rfl rfl rfl hc19) rfl rfl ?_
        refine rv (Value.bool true) w3 rfl rfl rfl (x_pickT (v := (Value.bool true)) rfl rfl hc19 rfl) ?_
        refine wpR_nil ?_
        exact ⟨true, ⟨rfl, trivial⟩, h⟩
      · replace h := h.2 hc19
        refine wpR_val (v := (Value.int .i64 r16)) (w' := w3) (wantG rfl rfl rfl hc19) rfl rfl (x_move rfl e5) ?_
        refine wpR_val (v := (Value.pointer (some ((Addr.mk b9 0 none).add 1)))) (w' := w3) (wantG rfl rfl rfl hc19) rfl rfl (x_fieldAddr rfl e2 FA_38_1) ?_
        obtain ⟨x20, q20, h⟩ := h
        refine wpR_val (v := (Sl.v x20)) (w' := w3) (wantG rfl rfl rfl hc19) rfl rfl (x_load1 rfl rfl SH_36 q20) ?_
        refine wpR_val (v := (Value.int .i64 (x20.len : Int))) (w' := w3) (wantG rfl rfl rfl hc19) rfl rfl (x_lenS (s := x20) rfl rfl isSliceT_36) ?_
        refine wpR_val (v := (Value.bool (decide (r16 < (x20.len : Int))))) (w' := w3) (wantG rfl rfl rfl hc19) rfl rfl (x_lss rfl rfl rfl) ?_
        refine wpR_val (v := (Value.bool (decide (r16 < (x20.len : Int))))) (w' := w3) (wantG rfl rfl rfl hc19) rfl rfl (x_move rfl rfl) ?_
        obtain ⟨J21, h, hk⟩ := h
        refine wpR_joinJ 9 (fun x ρ => ρ 31 = Value.bool x ∧ ρ 16 = (Value.bool (decide (p1 < x17))) ∧ True) (J21) ?_ ?_
        · clear hk
          rcases Bool.eq_false_or_eq_true (decide (r16 < (x20.len : Int))) with hc22 | hc22
          · replace h := h.1 hc22
            refine wpR_val (v := (Value.pointer (some ((Addr.mk b9 0 none).add 1)))) (w' := w3) (wantG rfl rfl rfl hc22) rfl rfl (x_fieldAddr rfl e2 FA_38_1) ?_
            obtain ⟨x23, q23, h⟩ := h
            refine wpR_val (v := (Sl.v x23)) (w' := w3) (wantG rfl rfl rfl hc22) rfl rfl (x_load1 rfl rfl SH_36 q23) ?_
            refine wpR_val (v := (Value.int .i64 r16)) (w' := w3) (wantG rfl rfl rfl hc22) rfl rfl (x_move rfl e5) ?_
            obtain ⟨q24, z24, r24, h⟩ := h
            generalize hp24 : z24.add ((r16 : Int).toNat * 2) = p24 at h
            refine wpR_val (v := (Value.pointer (some p24))) (w' := w3) (wantG rfl rfl rfl hc22) rfl rfl ((x_indexAddr (s := x23) rfl rfl rfl ES_36 q24 r24).trans (by rw [hp24])) ?_
            obtain ⟨p25, w4, q25, h⟩ := h
            refine wpR_val (v := (Value.pointer (some p25))) (w' := w4) (wantG rfl rfl rfl hc22) rfl rfl (x_indexAt rfl rfl rfl q25) ?_
            obtain ⟨x26, q26, h⟩ := h
            refine wpR_val (v := (Value.int .i64 x26)) (w' := w4) (wantG rfl rfl rfl hc22) rfl rfl (x_load1 rfl rfl SH_3 q26) ?_
            refine wpR_val (v := (Value.int .i64 p1)) (w' := w4) (wantG rfl rfl rfl hc22) rfl rfl (x_move rfl e1) ?_
            refine wpR_val (v := (Value.bool (decide (x26 ≤ p1)))) (w' := w4) (wantG rfl rfl rfl hc22) rfl rfl (x_leq rfl rfl rfl) ?_
            refine wpR_val (v := (Value.bool (decide (x26 ≤ p1)))) (w' := w4) (wantG rfl rfl rfl hc19) rfl rfl (x_pickT (v := (Value.bool (decide (x26 ≤ p1)))) rfl rfl hc22 rfl) ?_
            refine wpR_nil ?_
            exact ⟨decide (x26 ≤ p1), ⟨rfl, rfl, trivial⟩, h⟩
          · replace h := h.2 hc22
            refine wpR_pass (wantN rfl rfl rfl hc22) rfl rfl ?_
            refine wpR_pass (wantN rfl rfl rfl hc22) rfl rfl ?_
            refine wpR_pass (wantN rfl rfl rfl hc22) rfl rfl ?_
            refine wpR_pass (wantN rfl rfl rfl hc22) rfl rfl ?_
            refine wpR_pass (wantN rfl rfl rfl hc22) rfl rfl ?_
            refine wpR_pass (wantN rfl rfl rfl hc22) rfl rfl ?_
            refine wpR_pass (wantN rfl rfl rfl hc22) rfl rfl ?_
            refine wpR_pass (wantN rfl rfl rfl hc22) rfl rfl ?_
            refine wpR_val (v := (Value.bool false)) (w' := w3) (wantG rfl rfl rfl hc19) rfl rfl (x_pickF (v := (Value.bool false)) rfl rfl hc22 rfl) ?_
            refine wpR_nil ?_
            exact ⟨false, ⟨rfl, rfl, trivial⟩, h⟩
        clear h
        rintro c27 ρ w5 ⟨e31, e16, -⟩ h
        replace h := hk c27 w5 h
        clear hk
        refine rv (Value.bool c27) w5 rfl rfl rfl (x_pickF (v := (Value.bool c27)) rfl e16 hc19 e31) ?_
        refine wpR_nil ?_
        exact ⟨c27, ⟨rfl, trivial⟩, h⟩
    clear h
    rintro c28 ρ w6 ⟨e32, -⟩ h
    replace h := hk c28 w6 h
    clear hk
    refine rv (Value.bool c28) w6 rfl rfl rfl (x_assign rfl e32) ?_
    refine wpR_nil ?_
    refine wpC_ret ?_
    exact ⟨.inl rfl, fun a ha => ⟨_, results_rep1 rfl ha rfl, c28, rfl, h⟩⟩

/-- once.at -/
def F30 (p0_0 : Int) (p0_1 : Sl) (p1 : Int) (w0 : World) (K : Int → World → Prop) : Prop :=
  nw 38 #[(Value.int .i64 p0_0), (Sl.v p0_1)] w0 fun b9 w1 =>
  nw 3 #[(Value.int .i64 p1)] w1 fun b10 w2 =>
  ld Sl.v ((Addr.mk b9 0 none).add 1) w2 fun x11 =>
  callC Tryz.prog 54 #[(Value.int .i64 (x11.len : Int)), (Value.func (.func 55) #[] (List.toArray [(Value.pointer (some (Addr.mk b9 0 none))), (Value.pointer (some (Addr.mk b10 0 none)))]))] (fun (r : Int) => (Value.int .i64 r)) w2 fun r12 w3 =>
  K r12 w3
set_option maxRecDepth 100000 in
theorem D30 (p0_0 : Int) (p0_1 : Sl) (p1 : Int) (w0 : World) (K : Int → World → Prop) (h : F30 p0_0 p0_1 p1 w0 K) : callC Tryz.prog 30 #[(Value.agg #[(Value.int .i64 p0_0), (Sl.v p0_1)]), (Value.int .i64 p1)] (fun (r : Int) => (Value.int .i64 r)) w0 K := by
  unfold F30 at h
  refine calls_of_wpC Tryz.func30 rfl 10 rfl (by simp) ?_
  intro ρ hρ
  have e0 : ρ 0 = (Value.agg #[(Value.int .i64 p0_0), (Sl.v p0_1)]) := hρ 0
  have e1 : ρ 1 = (Value.int .i64 p1) := hρ 1
  clear hρ
  refine wpC_seq ?_
  refine wpC_region ?_
  obtain ⟨b9, hb9⟩ : ∃ u, u = w0.heap.size := ⟨_, rfl⟩
  obtain ⟨w1, hw9⟩ : ∃ u, u = w0.alloc (.cells #[(Value.int .i64 p0_0), (Sl.v p0_1)] 38) := ⟨_, rfl⟩
  replace h := h b9 w1 hb9 hw9
  refine rv (Value.pointer (some (Addr.mk b9 0 none))) w1 rfl rfl rfl ((x_box (v := (Value.agg #[(Value.int .i64 p0_0), (Sl.v p0_1)])) rfl e0).trans (by rw [hb9, hw9]; rfl)) ?_
  obtain ⟨b10, hb10⟩ : ∃ u, u = w1.heap.size := ⟨_, rfl⟩
  obtain ⟨w2, hw10⟩ : ∃ u, u = w1.alloc (.cells #[(Value.int .i64 p1)] 3) := ⟨_, rfl⟩
  replace h := h b10 w2 hb10 hw10
  refine rv (Value.pointer (some (Addr.mk b10 0 none))) w2 rfl rfl rfl ((x_box (v := (Value.int .i64 p1)) rfl e1).trans (by rw [hb10, hw10]; rfl)) ?_
  refine rv (Value.int .i64 0) w2 rfl rfl rfl (x_assign rfl rfl) ?_
  refine wpR_nil ?_
  refine wpC_seq ?_
  refine wpC_cut (fun ρ => ρ 2 = (Value.pointer (some (Addr.mk b9 0 none))) ∧ ρ 3 = (Value.pointer (some (Addr.mk b10 0 none))) ∧ True) ⟨rfl, rfl, trivial⟩ ?_
  rintro ρ ⟨e2, e3, -⟩
  refine wpC_region ?_
  refine rv (Value.pointer (some ((Addr.mk b9 0 none).add 1))) w2 rfl rfl rfl (x_fieldAddr rfl e2 FA_38_1) ?_
  obtain ⟨x11, q11, h⟩ := h
  refine rv (Sl.v x11) w2 rfl rfl rfl (x_load1 rfl rfl SH_36 q11) ?_
  refine rv (Value.int .i64 (x11.len : Int)) w2 rfl rfl rfl (x_lenS (s := x11) rfl rfl isSliceT_36) ?_
  refine rv (Value.func (.func 55) #[] (List.toArray [(Value.pointer (some (Addr.mk b9 0 none))), (Value.pointer (some (Addr.mk b10 0 none)))])) w2 rfl rfl rfl (x_makeFunc (vs := [(Value.pointer (some (Addr.mk b9 0 none))), (Value.pointer (some (Addr.mk b10 0 none)))]) rfl (mapl_cons e2 (mapl_cons e3 mapl_nil))) ?_
  refine wpR_enter rfl rfl rfl (x_call (vs := [(Value.int .i64 (x11.len : Int)), (Value.func (.func 55) #[] (List.toArray [(Value.pointer (some (Addr.mk b9 0 none))), (Value.pointer (some (Addr.mk b10 0 none)))]))]) rfl rfl (mapl_cons rfl (mapl_cons rfl mapl_nil)) Tryz.func54 NN_54 NB_54) (Calls.mono h ?_)
  rintro _ w3 ⟨r12, rfl, h⟩
  refine ⟨_, rfl, ?_⟩
  refine rv (Value.int .i64 r12) w3 rfl rfl rfl (x_assign rfl rfl) ?_
  refine wpR_nil ?_
  refine wpC_ret ?_
  exact ⟨.inl rfl, fun a ha => ⟨_, results_rep1 rfl ha rfl, r12, rfl, h⟩⟩

/-- slices.Insert[[][2]int,[2]int] -/
def F32 (p0 : Sl) (p1 : Int) (p2 : Sl) (w0 : World) (K : Sl → World → Prop) : Prop :=
  rn Tryz.prog (Instr.sliceAt 36 (Sl.v p0) (some (Value.int .i64 p1)) none none) (fun (r : Sl) => (Sl.v r)) w0 fun _r9 w1 =>
  cnd (decide ((p2.len : Int) = 0))
    (
    K p0 w1
    )
    (
    cnd (decide (p1 = (p0.len : Int)))
      (
      rn Tryz.prog (Builtin.append_ #[36, 36] 36 #[Sl.v p0, Sl.v p2]) Sl.v w1 fun r12 w2 =>
      K r12 w2
      )
      (
      cnd (decide ((p0.cap : Int) < (IntKind.i64.wrap ((p0.len : Int) + (p2.len : Int)))))
        (
        rn Tryz.prog (Instr.sliceAt 36 (Sl.v p0) none (some (Value.int .i64 p1)) none) (fun (r : Sl) => (Sl.v r)) w1 fun r14 w3 =>
        rn Tryz.prog (Builtin.append_ #[36, 3] 36 #[Sl.v r14, (Value.int .i64 (IntKind.i64.wrap ((IntKind.i64.wrap ((p0.len : Int) + (p2.len : Int))) - p1)))]) Sl.v w3 fun r15 w4 =>
        rn Tryz.prog (Instr.sliceAt 36 (Sl.v r15) (some (Value.int .i64 p1)) none none) (fun (r : Sl) => (Sl.v r)) w4 fun r16 w5 =>
        rn Tryz.prog (Builtin.copy_ #[36, 36] 3 #[(Sl.v r16), (Sl.v p2)]) (fun r : Int => (Value.int .i64 r)) w5 fun _r17 w6 =>
        jn (fun (J19 : Unit → World → Prop) => tk w6 fun w7 =>
          (
            rn Tryz.prog (Instr.sliceAt 36 (Sl.v r15) (some (Value.int .i64 (IntKind.i64.wrap (p1 + (p2.len : Int))))) none none) (fun (r : Sl) => (Sl.v r)) w7 fun r20 w8 =>
            rn Tryz.prog (Instr.sliceAt 36 (Sl.v p0) (some (Value.int .i64 p1)) none none) (fun (r : Sl) => (Sl.v r)) w8 fun r21 w9 =>
            rn Tryz.prog (Builtin.copy_ #[36, 36] 3 #[(Sl.v r20), (Sl.v r21)]) (fun r : Int => (Value.int .i64 r)) w9 fun _r22 w10 =>
            J19 () w10
          )
          ∧
          (
            rn Tryz.prog (Instr.sliceAt 36 (Sl.v p0) (some (Value.int .i64 p1)) none none) (fun (r : Sl) => (Sl.v r)) w7 fun r23 w11 =>
            rn Tryz.prog (Instr.sliceAt 36 (Sl.v r15) (some (Value.int .i64 (IntKind.i64.wrap (p1 + (p2.len : Int))))) none none) (fun (r : Sl) => (Sl.v r)) w11 fun r24 w12 =>
            rn Tryz.prog (Builtin.copy_ #[36, 36] 3 #[(Sl.v r24), (Sl.v r23)]) (fun r : Int => (Value.int .i64 r)) w12 fun _r25 w13 =>
            J19 () w13
          )
        )
        fun _l26 w14 =>
        K r15 w14
        )
        (
        rn Tryz.prog (Instr.sliceAt 36 (Sl.v p0) none (some (Value.int .i64 (IntKind.i64.wrap ((p0.len : Int) + (p2.len : Int))))) none) (fun (r : Sl) => (Sl.v r)) w1 fun r27 w15 =>
        rn Tryz.prog (Instr.sliceAt 36 (Sl.v r27) (some (Value.int .i64 (IntKind.i64.wrap (p1 + (p2.len : Int))))) none none) (fun (r : Sl) => (Sl.v r)) w15 fun r28 w16 =>
        cx Tryz.prog 56 [(Sl.v p2), (Sl.v r28)] (fun (r : Bool) => (Value.bool r)) w16 fun r29 w17 =>
        cnd (!r29)
          (
          jn (fun (J32 : Unit → World → Prop) => tk w17 fun w18 =>
            (
              rn Tryz.prog (Instr.sliceAt 36 (Sl.v r27) (some (Value.int .i64 (IntKind.i64.wrap (p1 + (p2.len : Int))))) none none) (fun (r : Sl) => (Sl.v r)) w18 fun r33 w19 =>
              rn Tryz.prog (Instr.sliceAt 36 (Sl.v r27) (some (Value.int .i64 p1)) none none) (fun (r : Sl) => (Sl.v r)) w19 fun r34 w20 =>
              rn Tryz.prog (Builtin.copy_ #[36, 36] 3 #[(Sl.v r33), (Sl.v r34)]) (fun r : Int => (Value.int .i64 r)) w20 fun _r35 w21 =>
              J32 () w21
            )
            ∧
            (
              rn Tryz.prog (Instr.sliceAt 36 (Sl.v r27) (some (Value.int .i64 p1)) none none) (fun (r : Sl) => (Sl.v r)) w18 fun r36 w22 =>
              rn Tryz.prog (Instr.sliceAt 36 (Sl.v r27) (some (Value.int .i64 (IntKind.i64.wrap (p1 + (p2.len : Int))))) none none) (fun (r : Sl) => (Sl.v r)) w22 fun r37 w23 =>
              rn Tryz.prog (Builtin.copy_ #[36, 36] 3 #[(Sl.v r37), (Sl.v r36)]) (fun r : Int => (Value.int .i64 r)) w23 fun _r38 w24 =>
              J32 () w24
            )
          )
          fun _l39 w25 =>
          rn Tryz.prog (Instr.sliceAt 36 (Sl.v r27) (some (Value.int .i64 p1)) none none) (fun (r : Sl) => (Sl.v r)) w25 fun r40 w26 =>
          rn Tryz.prog (Builtin.copy_ #[36, 36] 3 #[(Sl.v r40), (Sl.v p2)]) (fun r : Int => (Value.int .i64 r)) w26 fun _r41 w27 =>
          K r27 w27
          )
          (
          rn Tryz.prog (Instr.sliceAt 36 (Sl.v r27) (some (Value.int .i64 (p0.len : Int))) none none) (fun (r : Sl) => (Sl.v r)) w17 fun r42 w28 =>
          rn Tryz.prog (Builtin.copy_ #[36, 36] 3 #[(Sl.v r42), (Sl.v p2)]) (fun r : Int => (Value.int .i64 r)) w28 fun _r43 w29 =>
          rn Tryz.prog (Instr.sliceAt 36 (Sl.v r27) (some (Value.int .i64 p1)) none none) (fun (r : Sl) => (Sl.v r)) w29 fun r44 w30 =>
          callC Tryz.prog 57 #[(Sl.v r44), (Value.int .i64 (p2.len : Int))] (fun (_ : Unit) => (Value.tuple #[])) w30 fun _r45 w31 =>
          K r27 w31
          )
        )
      )
    )
set_option maxRecDepth 100000 in
theorem D32 (p0 : Sl) (p1 : Int) (p2 : Sl) (w0 : World) (K : Sl → World → Prop) (h : F32 p0 p1 p2 w0 K) : callC Tryz.prog 32 #[(Sl.v p0), (Value.int .i64 p1), (Sl.v p2)] (fun (r : Sl) => (Sl.v r)) w0 K := by
  unfold F32 at h
  refine calls_of_wpC Tryz.func32 rfl 95 rfl (by simp) ?_
  intro ρ hρ
  have e0 : ρ 0 = (Sl.v p0) := hρ 0
  have e1 : ρ 1 = (Value.int .i64 p1) := hρ 1
  have e2 : ρ 2 = (Sl.v p2) := hρ 2
  clear hρ
  refine wpC_seq ?_
  refine wpC_region ?_
  refine rv (Sl.v Sl.nil) w0 rfl rfl rfl (x_assign rfl rfl) ?_
  refine wpR_nil ?_
  refine wpC_seq ?_
  refine wpC_cut (fun ρ => ρ 0 = (Sl.v p0) ∧ ρ 1 = (Value.int .i64 p1) ∧ ρ 2 = (Sl.v p2) ∧ True) ⟨e0, e1, e2, trivial⟩ ?_
  rintro ρ ⟨e0, e1, e2, -⟩
  refine wpC_region ?_
  refine rv (Sl.v p0) w0 rfl rfl rfl (x_move rfl e0) ?_
  refine rv (Value.int .i64 p1) w0 rfl rfl rfl (x_move rfl e1) ?_
  obtain ⟨r9, w1, q9, h⟩ := h
  refine rv (Sl.v r9) w1 rfl rfl rfl (x_sliceAt rfl rfl (congrArg some rfl) rfl rfl q9) ?_
  refine wpR_nil ?_
  refine wpC_seq ?_
  refine wpC_cut (fun ρ => ρ 0 = (Sl.v p0) ∧ ρ 1 = (Value.int .i64 p1) ∧ ρ 2 = (Sl.v p2) ∧ True) ⟨e0, e1, e2, trivial⟩ ?_
  rintro ρ ⟨e0, e1, e2, -⟩
  refine wpC_region ?_
  refine rv (Sl.v p2) w1 rfl rfl rfl (x_move rfl e2) ?_
  refine rv (Value.int .i64 (p2.len : Int)) w1 rfl rfl rfl (x_lenS (s := p2) rfl rfl isSliceT_36) ?_
  refine rv (Value.int .i64 (p2.len : Int)) w1 rfl rfl rfl (x_assign rfl rfl) ?_
  refine wpR_nil ?_
  refine wpC_seq ?_
  refine wpC_seq ?_
  refine wpC_cut (fun ρ => ρ 0 = (Sl.v p0) ∧ ρ 1 = (Value.int .i64 p1) ∧ ρ 2 = (Sl.v p2) ∧ ρ 7 = (Value.int .i64 (p2.len : Int)) ∧ True) ⟨e0, e1, e2, rfl, trivial⟩ ?_
  rintro ρ ⟨e0, e1, e2, e7, -⟩
  refine wpC_region ?_
  refine rv (Value.int .i64 (p2.len : Int)) w1 rfl rfl rfl (x_move rfl e7) ?_
  refine rv (Value.bool (decide ((p2.len : Int) = 0))) w1 rfl rfl rfl (x_eql rfl rfl rfl) ?_
  refine wpR_nil ?_
  refine wpC_cond (b := decide ((p2.len : Int) = 0)) rfl (fun hc10 => ?_) (fun hc10 => ?_)
  · replace h := h.1 hc10
    refine wpC_seq ?_
    refine wpC_cut (fun ρ => ρ 0 = (Sl.v p0) ∧ True) ⟨e0, trivial⟩ ?_
    rintro ρ ⟨e0, -⟩
    refine wpC_region ?_
    refine rv (Sl.v p0) w1 rfl rfl rfl (x_move rfl e0) ?_
    refine rv (Sl.v p0) w1 rfl rfl rfl (x_assign rfl rfl) ?_
    refine wpR_nil ?_
    refine wpC_ret ?_
    exact ⟨.inl rfl, fun a ha => ⟨_, results_rep1 rfl ha rfl, p0, rfl, h⟩⟩
  · replace h := h.2 hc10
    refine wpC_skip ?_
    refine wpC_seq ?_
    refine wpC_cut (fun ρ => ρ 0 = (Sl.v p0) ∧ ρ 1 = (Value.int .i64 p1) ∧ ρ 2 = (Sl.v p2) ∧ ρ 7 = (Value.int .i64 (p2.len : Int)) ∧ True) ⟨e0, e1, e2, e7, trivial⟩ ?_
    rintro ρ ⟨e0, e1, e2, e7, -⟩
    refine wpC_region ?_
    refine rv (Sl.v p0) w1 rfl rfl rfl (x_move rfl e0) ?_
    refine rv (Value.int .i64 (p0.len : Int)) w1 rfl rfl rfl (x_lenS (s := p0) rfl rfl isSliceT_36) ?_
    refine rv (Value.int .i64 (p0.len : Int)) w1 rfl rfl rfl (x_assign rfl rfl) ?_
    refine wpR_nil ?_
    refine wpC_seq ?_
    refine wpC_seq ?_
    refine wpC_cut (fun ρ => ρ 0 = (Sl.v p0) ∧ ρ 1 = (Value.int .i64 p1) ∧ ρ 2 = (Sl.v p2) ∧ ρ 7 = (Value.int .i64 (p2.len : Int)) ∧ ρ 8 = (Value.int .i64 (p0.len : Int)) ∧ True) ⟨e0, e1, e2, e7, rfl, trivial⟩ ?_
    rintro ρ ⟨e0, e1, e2, e7, e8, -⟩
    refine wpC_region ?_
    refine rv (Value.int .i64 p1) w1 rfl rfl rfl (x_move rfl e1) ?_
    refine rv (Value.int .i64 (p0.len : Int)) w1 rfl rfl rfl (x_move rfl e8) ?_
    refine rv (Value.bool (decide (p1 = (p0.len : Int)))) w1 rfl rfl rfl (x_eql rfl rfl rfl) ?_
    refine wpR_nil ?_
    refine wpC_cond (b := decide (p1 = (p0.len : Int))) rfl (fun hc11 => ?_) (fun hc11 => ?_)
    · replace h := h.1 hc11
      refine wpC_seq ?_
      refine wpC_cut (fun ρ => ρ 0 = (Sl.v p0) ∧ ρ 2 = (Sl.v p2) ∧ True) ⟨e0, e2, trivial⟩ ?_
      rintro ρ ⟨e0, e2, -⟩
      refine wpC_region ?_
      refine rv (Sl.v p0) w1 rfl rfl rfl (x_move rfl e0) ?_
      refine rv (Sl.v p2) w1 rfl rfl rfl (x_move rfl e2) ?_
      obtain ⟨r12, w2, q12, h⟩ := h
      refine rv (Sl.v r12) w2 rfl rfl rfl (x_append (s := p0) (u := p2) rfl rfl rfl rfl q12) ?_
      refine rv (Sl.v r12) w2 rfl rfl rfl (x_assign rfl rfl) ?_
      refine wpR_nil ?_
      refine wpC_ret ?_
      exact ⟨.inl rfl, fun a ha => ⟨_, results_rep1 rfl ha rfl, r12, rfl, h⟩⟩
    · replace h := h.2 hc11
      refine wpC_skip ?_
      refine wpC_seq ?_
      refine wpC_seq ?_
      refine wpC_cut (fun ρ => ρ 0 = (Sl.v p0) ∧ ρ 1 = (Value.int .i64 p1) ∧ ρ 2 = (Sl.v p2) ∧ ρ 7 = (Value.int .i64 (p2.len : Int)) ∧ ρ 8 = (Value.int .i64 (p0.len : Int)) ∧ True) ⟨e0, e1, e2, e7, e8, trivial⟩ ?_
      rintro ρ ⟨e0, e1, e2, e7, e8, -⟩
      refine wpC_region ?_
      refine rv (Value.int .i64 (p0.len : Int)) w1 rfl rfl rfl (x_move rfl e8) ?_
      refine rv (Value.int .i64 (p2.len : Int)) w1 rfl rfl rfl (x_move rfl e7) ?_
      refine rv (Value.int .i64 (IntKind.i64.wrap ((p0.len : Int) + (p2.len : Int)))) w1 rfl rfl rfl (x_add rfl rfl rfl) ?_
      refine rv (Sl.v p0) w1 rfl rfl rfl (x_move rfl e0) ?_
      refine rv (Value.int .i64 (p0.cap : Int)) w1 rfl rfl rfl (x_capS (s := p0) rfl rfl isSliceT_36) ?_
      refine rv (Value.bool (decide ((p0.cap : Int) < (IntKind.i64.wrap ((p0.len : Int) + (p2.len : Int)))))) w1 rfl rfl rfl (x_gtr rfl rfl rfl) ?_
      refine wpR_nil ?_
      refine wpC_cond (b := decide ((p0.cap : Int) < (IntKind.i64.wrap ((p0.len : Int) + (p2.len : Int))))) rfl (fun hc13 => ?_) (fun hc13 => ?_)
      · replace h := h.1 hc13
        refine wpC_seq ?_
        refine wpC_cut (fun ρ => ρ 0 = (Sl.v p0) ∧ ρ 1 = (Value.int .i64 p1) ∧ ρ 2 = (Sl.v p2) ∧ ρ 7 = (Value.int .i64 (p2.len : Int)) ∧ ρ 8 = (Value.int .i64 (p0.len : Int)) ∧ True) ⟨e0, e1, e2, e7, e8, trivial⟩ ?_
        rintro ρ ⟨e0, e1, e2, e7, e8, -⟩
        refine wpC_region ?_
        refine rv (Sl.v p0) w1 rfl rfl rfl (x_move rfl e0) ?_
        refine rv (Value.int .i64 p1) w1 rfl rfl rfl (x_move rfl e1) ?_
        obtain ⟨r14, w3, q14, h⟩ := h
        refine rv (Sl.v r14) w3 rfl rfl rfl (x_sliceAt rfl rfl rfl (congrArg some rfl) rfl q14) ?_
        refine rv (Value.int .i64 (p0.len : Int)) w3 rfl rfl rfl (x_move rfl e8) ?_
        refine rv (Value.int .i64 (p2.len : Int)) w3 rfl rfl rfl (x_move rfl e7) ?_
        refine rv (Value.int .i64 (IntKind.i64.wrap ((p0.len : Int) + (p2.len : Int)))) w3 rfl rfl rfl (x_add rfl rfl rfl) ?_
        refine rv (Value.int .i64 p1) w3 rfl rfl rfl (x_move rfl e1) ?_
        refine rv (Value.int .i64 (IntKind.i64.wrap ((IntKind.i64.wrap ((p0.len : Int) + (p2.len : Int))) - p1))) w3 rfl rfl rfl (x_sub rfl rfl rfl) ?_
        obtain ⟨r15, w4, q15, h⟩ := h
        refine rv (Sl.v r15) w4 rfl rfl rfl (x_append2 rfl rfl rfl rfl q15) ?_
        refine rv (Sl.v r15) w4 rfl rfl rfl (x_assign rfl rfl) ?_
        refine wpR_nil ?_
        refine wpC_seq ?_
        refine wpC_cut (fun ρ => ρ 0 = (Sl.v p0) ∧ ρ 1 = (Value.int .i64 p1) ∧ ρ 2 = (Sl.v p2) ∧ ρ 7 = (Value.int .i64 (p2.len : Int)) ∧ ρ 9 = (Sl.v r15) ∧ True) ⟨e0, e1, e2, e7, rfl, trivial⟩ ?_
        rintro ρ ⟨e0, e1, e2, e7, e9, -⟩
        refine wpC_region ?_
        refine rv (Sl.v r15) w4 rfl rfl rfl (x_move rfl e9) ?_
        refine rv (Value.int .i64 p1) w4 rfl rfl rfl (x_move rfl e1) ?_
        obtain ⟨r16, w5, q16, h⟩ := h
        refine rv (Sl.v r16) w5 rfl rfl rfl (x_sliceAt rfl rfl (congrArg some rfl) rfl rfl q16) ?_
        refine rv (Sl.v p2) w5 rfl rfl rfl (x_move rfl e2) ?_
        obtain ⟨r17, w6, q17, h⟩ := h
        refine rv (Value.int .i64 r17) w6 rfl rfl rfl (x_copy rfl rfl rfl rfl q17) ?_
        refine wpR_nil ?_
        refine wpC_seq ?_
        refine wpC_cut (fun ρ => ρ 0 = (Sl.v p0) ∧ ρ 1 = (Value.int .i64 p1) ∧ ρ 7 = (Value.int .i64 (p2.len : Int)) ∧ ρ 9 = (Sl.v r15) ∧ True) ⟨e0, e1, e7, e9, trivial⟩ ?_
        rintro ρ ⟨e0, e1, e7, e9, -⟩
        obtain ⟨J19, h, hk⟩ := h
        refine wpC_drawJ (by kernel_rfl) (fun (x : Unit) ρ => ρ 9 = (Sl.v r15) ∧ True) J19 ?_ ?_
        · clear hk
          unfold tk at h
          generalize w6.drew = w7 at h ⊢
          refine wpD_take (v := (Sl.v r15)) 0 (fun _ => True) rfl (by kernel_rfl) (by kernel_rfl) (by kernel_rfl) rfl rfl rfl trivial (fun w _ => (x_move (v := (Sl.v r15)) rfl e9)) ?_
          refine wpD_take (v := (Value.int .i64 p1)) 1 (fun _ => True) rfl (by kernel_rfl) (by kernel_rfl) (by kernel_rfl) rfl rfl rfl trivial (fun w _ => (x_move (v := (Value.int .i64 p1)) rfl e1)) ?_
          refine wpD_take (v := (Value.int .i64 (p2.len : Int))) 2 (fun _ => True) rfl (by kernel_rfl) (by kernel_rfl) (by kernel_rfl) rfl rfl rfl trivial (fun w _ => (x_move (v := (Value.int .i64 (p2.len : Int))) rfl e7)) ?_
          refine wpD_take (v := (Value.int .i64 (IntKind.i64.wrap (p1 + (p2.len : Int))))) 3 (fun _ => True) rfl (by kernel_rfl) (by kernel_rfl) (by kernel_rfl) rfl rfl rfl trivial (fun w _ => (x_add rfl rfl rfl)) ?_
          refine wpD_take (v := (Sl.v p0)) 5 (fun _ => True) rfl (by kernel_rfl) (by kernel_rfl) (by kernel_rfl) rfl rfl rfl trivial (fun w _ => (x_move (v := (Sl.v p0)) rfl e0)) ?_
          refine wpD_take (v := (Value.int .i64 p1)) 6 (fun _ => True) rfl (by kernel_rfl) (by kernel_rfl) (by kernel_rfl) rfl rfl rfl trivial (fun w _ => (x_move (v := (Value.int .i64 p1)) rfl e1)) ?_
          refine wpD_all (rs := [4, 7]) (by kernel_rfl) (by simp) (allD_cons ?_ (allD_cons ?_ allD_nil))
          · replace h := h.1
            obtain ⟨r20, w8, q20, h⟩ := h
            refine stepD_valL (L' := [(6, fun _ => True), (5, fun _ => True), (2, fun _ => True), (1, fun _ => True)]) (v := (Sl.v r20)) (w' := w8) rfl rfl rfl rfl (x_sliceAt rfl rfl (congrArg some rfl) rfl rfl q20) (by kernel_rfl) (held_cons trivial (held_cons trivial (held_cons trivial (held_cons trivial held_nil)))) ?_
            refine wpD_all (rs := [7]) (by kernel_rfl) (by simp) (allD_cons ?_ allD_nil)
            obtain ⟨r21, w9, q21, h⟩ := h
            refine stepD_valL (L' := [(2, fun _ => True), (1, fun _ => True)]) (v := (Sl.v r21)) (w' := w9) rfl rfl rfl rfl (x_sliceAt rfl rfl (congrArg some rfl) rfl rfl q21) (by kernel_rfl) (held_cons trivial (held_cons trivial held_nil)) ?_
            refine wpD_all (rs := [8]) (by kernel_rfl) (by simp) (allD_cons ?_ allD_nil)
            obtain ⟨r22, w10, q22, h⟩ := h
            refine stepD_valL (L' := [(2, fun _ => True), (1, fun _ => True)]) (v := (Value.int .i64 r22)) (w' := w10) rfl rfl rfl rfl (x_copy rfl rfl rfl rfl q22) (by kernel_rfl) (held_cons trivial (held_cons trivial held_nil)) ?_
            exact wpD_done (by kernel_rfl) ⟨(), ⟨e9, trivial⟩, h⟩
          · replace h := h.2
            obtain ⟨r23, w11, q23, h⟩ := h
            refine stepD_valL (L' := [(3, fun _ => True), (2, fun _ => True), (1, fun _ => True), (0, fun _ => True)]) (v := (Sl.v r23)) (w' := w11) rfl rfl rfl rfl (x_sliceAt rfl rfl (congrArg some rfl) rfl rfl q23) (by kernel_rfl) (held_cons trivial (held_cons trivial (held_cons trivial (held_cons trivial held_nil)))) ?_
            refine wpD_all (rs := [4]) (by kernel_rfl) (by simp) (allD_cons ?_ allD_nil)
            obtain ⟨r24, w12, q24, h⟩ := h
            refine stepD_valL (L' := [(2, fun _ => True), (1, fun _ => True)]) (v := (Sl.v r24)) (w' := w12) rfl rfl rfl rfl (x_sliceAt rfl rfl (congrArg some rfl) rfl rfl q24) (by kernel_rfl) (held_cons trivial (held_cons trivial held_nil)) ?_
            refine wpD_all (rs := [8]) (by kernel_rfl) (by simp) (allD_cons ?_ allD_nil)
            obtain ⟨r25, w13, q25, h⟩ := h
            refine stepD_valL (L' := [(2, fun _ => True), (1, fun _ => True)]) (v := (Value.int .i64 r25)) (w' := w13) rfl rfl rfl rfl (x_copy rfl rfl rfl rfl q25) (by kernel_rfl) (held_cons trivial (held_cons trivial held_nil)) ?_
            exact wpD_done (by kernel_rfl) ⟨(), ⟨e9, trivial⟩, h⟩
        clear h
        rintro l26 ρ w14 ⟨e9, -⟩ h
        replace h := hk l26 w14 h
        clear hk
        refine wpC_seq ?_
        refine wpC_region ?_
        refine rv (Sl.v r15) w14 rfl rfl rfl (x_move rfl e9) ?_
        refine rv (Sl.v r15) w14 rfl rfl rfl (x_assign rfl rfl) ?_
        refine wpR_nil ?_
        refine wpC_ret ?_
        exact ⟨.inl rfl, fun a ha => ⟨_, results_rep1 rfl ha rfl, r15, rfl, h⟩⟩
      · replace h := h.2 hc13
        refine wpC_skip ?_
        refine wpC_seq ?_
        refine wpC_cut (fun ρ => ρ 0 = (Sl.v p0) ∧ ρ 1 = (Value.int .i64 p1) ∧ ρ 2 = (Sl.v p2) ∧ ρ 7 = (Value.int .i64 (p2.len : Int)) ∧ ρ 8 = (Value.int .i64 (p0.len : Int)) ∧ True) ⟨e0, e1, e2, e7, e8, trivial⟩ ?_
        rintro ρ ⟨e0, e1, e2, e7, e8, -⟩
        refine wpC_region ?_
        refine rv (Sl.v p0) w1 rfl rfl rfl (x_move rfl e0) ?_
        refine rv (Value.int .i64 (p0.len : Int)) w1 rfl rfl rfl (x_move rfl e8) ?_
        refine rv (Value.int .i64 (p2.len : Int)) w1 rfl rfl rfl (x_move rfl e7) ?_
        refine rv (Value.int .i64 (IntKind.i64.wrap ((p0.len : Int) + (p2.len : Int)))) w1 rfl rfl rfl (x_add rfl rfl rfl) ?_
        obtain ⟨r27, w15, q27, h⟩ := h
        refine rv (Sl.v r27) w15 rfl rfl rfl (x_sliceAt rfl rfl rfl (congrArg some rfl) rfl q27) ?_
        refine rv (Sl.v r27) w15 rfl rfl rfl (x_assign rfl rfl) ?_
        refine wpR_nil ?_
        refine wpC_seq ?_
        refine wpC_seq ?_
        refine wpC_cut (fun ρ => ρ 0 = (Sl.v r27) ∧ ρ 1 = (Value.int .i64 p1) ∧ ρ 2 = (Sl.v p2) ∧ ρ 7 = (Value.int .i64 (p2.len : Int)) ∧ ρ 8 = (Value.int .i64 (p0.len : Int)) ∧ True) ⟨rfl, e1, e2, e7, e8, trivial⟩ ?_
        rintro ρ ⟨e0, e1, e2, e7, e8, -⟩
        refine wpC_region ?_
        refine rv (Sl.v p2) w15 rfl rfl rfl (x_move rfl e2) ?_
        refine rv (Sl.v r27) w15 rfl rfl rfl (x_move rfl e0) ?_
        refine rv (Value.int .i64 p1) w15 rfl rfl rfl (x_move rfl e1) ?_
        refine rv (Value.int .i64 (p2.len : Int)) w15 rfl rfl rfl (x_move rfl e7) ?_
        refine rv (Value.int .i64 (IntKind.i64.wrap (p1 + (p2.len : Int)))) w15 rfl rfl rfl (x_add rfl rfl rfl) ?_
        obtain ⟨r28, w16, q28, h⟩ := h
        refine rv (Sl.v r28) w16 rfl rfl rfl (x_sliceAt rfl rfl (congrArg some rfl) rfl rfl q28) ?_
        obtain ⟨r29, w17, q29, h⟩ := h
        refine rv (Value.bool r29) w17 rfl rfl rfl (x_callx (vs := [(Sl.v p2), (Sl.v r28)]) rfl rfl (mapl_cons rfl (mapl_cons rfl mapl_nil)) q29) ?_
        refine rv (Value.bool (!r29)) w17 rfl rfl rfl (x_not rfl rfl) ?_
        refine wpR_nil ?_
        refine wpC_cond (b := !r29) rfl (fun hc30 => ?_) (fun hc30 => ?_)
        · replace h := h.1 hc30
          refine wpC_seq ?_
          refine wpC_cut (fun ρ => ρ 0 = (Sl.v r27) ∧ ρ 1 = (Value.int .i64 p1) ∧ ρ 2 = (Sl.v p2) ∧ ρ 7 = (Value.int .i64 (p2.len : Int)) ∧ True) ⟨e0, e1, e2, e7, trivial⟩ ?_
          rintro ρ ⟨e0, e1, e2, e7, -⟩
          obtain ⟨J32, h, hk⟩ := h
          refine wpC_drawJ (by kernel_rfl) (fun (x : Unit) ρ => ρ 0 = (Sl.v r27) ∧ ρ 1 = (Value.int .i64 p1) ∧ ρ 2 = (Sl.v p2) ∧ True) J32 ?_ ?_
          · clear hk
            unfold tk at h
            generalize w17.drew = w18 at h ⊢
            refine wpD_take (v := (Sl.v r27)) 0 (fun _ => True) rfl (by kernel_rfl) (by kernel_rfl) (by kernel_rfl) rfl rfl rfl trivial (fun w _ => (x_move (v := (Sl.v r27)) rfl e0)) ?_
            refine wpD_take (v := (Value.int .i64 p1)) 1 (fun _ => True) rfl (by kernel_rfl) (by kernel_rfl) (by kernel_rfl) rfl rfl rfl trivial (fun w _ => (x_move (v := (Value.int .i64 p1)) rfl e1)) ?_
            refine wpD_take (v := (Value.int .i64 (p2.len : Int))) 2 (fun _ => True) rfl (by kernel_rfl) (by kernel_rfl) (by kernel_rfl) rfl rfl rfl trivial (fun w _ => (x_move (v := (Value.int .i64 (p2.len : Int))) rfl e7)) ?_
            refine wpD_take (v := (Value.int .i64 (IntKind.i64.wrap (p1 + (p2.len : Int))))) 3 (fun _ => True) rfl (by kernel_rfl) (by kernel_rfl) (by kernel_rfl) rfl rfl rfl trivial (fun w _ => (x_add rfl rfl rfl)) ?_
            refine wpD_take (v := (Sl.v r27)) 5 (fun _ => True) rfl (by kernel_rfl) (by kernel_rfl) (by kernel_rfl) rfl rfl rfl trivial (fun w _ => (x_move (v := (Sl.v r27)) rfl e0)) ?_
            refine wpD_take (v := (Value.int .i64 p1)) 6 (fun _ => True) rfl (by kernel_rfl) (by kernel_rfl) (by kernel_rfl) rfl rfl rfl trivial (fun w _ => (x_move (v := (Value.int .i64 p1)) rfl e1)) ?_
            refine wpD_all (rs := [4, 7]) (by kernel_rfl) (by simp) (allD_cons ?_ (allD_cons ?_ allD_nil))
            · replace h := h.1
              obtain ⟨r33, w19, q33, h⟩ := h
              refine stepD_valL (L' := [(6, fun _ => True), (5, fun _ => True), (2, fun _ => True), (1, fun _ => True)]) (v := (Sl.v r33)) (w' := w19) rfl rfl rfl rfl (x_sliceAt rfl rfl (congrArg some rfl) rfl rfl q33) (by kernel_rfl) (held_cons trivial (held_cons trivial (held_cons trivial (held_cons trivial held_nil)))) ?_
              refine wpD_all (rs := [7]) (by kernel_rfl) (by simp) (allD_cons ?_ allD_nil)
              obtain ⟨r34, w20, q34, h⟩ := h
              refine stepD_valL (L' := [(2, fun _ => True), (1, fun _ => True)]) (v := (Sl.v r34)) (w' := w20) rfl rfl rfl rfl (x_sliceAt rfl rfl (congrArg some rfl) rfl rfl q34) (by kernel_rfl) (held_cons trivial (held_cons trivial held_nil)) ?_
              refine wpD_all (rs := [8]) (by kernel_rfl) (by simp) (allD_cons ?_ allD_nil)
              obtain ⟨r35, w21, q35, h⟩ := h
              refine stepD_valL (L' := [(2, fun _ => True), (1, fun _ => True)]) (v := (Value.int .i64 r35)) (w' := w21) rfl rfl rfl rfl (x_copy rfl rfl rfl rfl q35) (by kernel_rfl) (held_cons trivial (held_cons trivial held_nil)) ?_
              exact wpD_done (by kernel_rfl) ⟨(), ⟨e0, e1, e2, trivial⟩, h⟩
            · replace h := h.2
              obtain ⟨r36, w22, q36, h⟩ := h
              refine stepD_valL (L' := [(3, fun _ => True), (2, fun _ => True), (1, fun _ => True), (0, fun _ => True)]) (v := (Sl.v r36)) (w' := w22) rfl rfl rfl rfl (x_sliceAt rfl rfl (congrArg some rfl) rfl rfl q36) (by kernel_rfl) (held_cons trivial (held_cons trivial (held_cons trivial (held_cons trivial held_nil)))) ?_
              refine wpD_all (rs := [4]) (by kernel_rfl) (by simp) (allD_cons ?_ allD_nil)
              obtain ⟨r37, w23, q37, h⟩ := h
              refine stepD_valL (L' := [(2, fun _ => True), (1, fun _ => True)]) (v := (Sl.v r37)) (w' := w23) rfl rfl rfl rfl (x_sliceAt rfl rfl (congrArg some rfl) rfl rfl q37) (by kernel_rfl) (held_cons trivial (held_cons trivial held_nil)) ?_
              refine wpD_all (rs := [8]) (by kernel_rfl) (by simp) (allD_cons ?_ allD_nil)
              obtain ⟨r38, w24, q38, h⟩ := h
              refine stepD_valL (L' := [(2, fun _ => True), (1, fun _ => True)]) (v := (Value.int .i64 r38)) (w' := w24) rfl rfl rfl rfl (x_copy rfl rfl rfl rfl q38) (by kernel_rfl) (held_cons trivial (held_cons trivial held_nil)) ?_
              exact wpD_done (by kernel_rfl) ⟨(), ⟨e0, e1, e2, trivial⟩, h⟩
          clear h
          rintro l39 ρ w25 ⟨e0, e1, e2, -⟩ h
          replace h := hk l39 w25 h
          clear hk
          refine wpC_seq ?_
          refine wpC_region ?_
          refine rv (Sl.v r27) w25 rfl rfl rfl (x_move rfl e0) ?_
          refine rv (Value.int .i64 p1) w25 rfl rfl rfl (x_move rfl e1) ?_
          obtain ⟨r40, w26, q40, h⟩ := h
          refine rv (Sl.v r40) w26 rfl rfl rfl (x_sliceAt rfl rfl (congrArg some rfl) rfl rfl q40) ?_
          refine rv (Sl.v p2) w26 rfl rfl rfl (x_move rfl e2) ?_
          obtain ⟨r41, w27, q41, h⟩ := h
          refine rv (Value.int .i64 r41) w27 rfl rfl rfl (x_copy rfl rfl rfl rfl q41) ?_
          refine wpR_nil ?_
          refine wpC_seq ?_
          refine wpC_cut (fun ρ => ρ 0 = (Sl.v r27) ∧ True) ⟨e0, trivial⟩ ?_
          rintro ρ ⟨e0, -⟩
          refine wpC_region ?_
          refine rv (Sl.v r27) w27 rfl rfl rfl (x_move rfl e0) ?_
          refine rv (Sl.v r27) w27 rfl rfl rfl (x_assign rfl rfl) ?_
          refine wpR_nil ?_
          refine wpC_ret ?_
          exact ⟨.inl rfl, fun a ha => ⟨_, results_rep1 rfl ha rfl, r27, rfl, h⟩⟩
        · replace h := h.2 hc30
          refine wpC_skip ?_
          refine wpC_seq ?_
          refine wpC_cut (fun ρ => ρ 0 = (Sl.v r27) ∧ ρ 1 = (Value.int .i64 p1) ∧ ρ 2 = (Sl.v p2) ∧ ρ 7 = (Value.int .i64 (p2.len : Int)) ∧ ρ 8 = (Value.int .i64 (p0.len : Int)) ∧ True) ⟨e0, e1, e2, e7, e8, trivial⟩ ?_
          rintro ρ ⟨e0, e1, e2, e7, e8, -⟩
          refine wpC_region ?_
          refine rv (Sl.v r27) w17 rfl rfl rfl (x_move rfl e0) ?_
          refine rv (Value.int .i64 (p0.len : Int)) w17 rfl rfl rfl (x_move rfl e8) ?_
          obtain ⟨r42, w28, q42, h⟩ := h
          refine rv (Sl.v r42) w28 rfl rfl rfl (x_sliceAt rfl rfl (congrArg some rfl) rfl rfl q42) ?_
          refine rv (Sl.v p2) w28 rfl rfl rfl (x_move rfl e2) ?_
          obtain ⟨r43, w29, q43, h⟩ := h
          refine rv (Value.int .i64 r43) w29 rfl rfl rfl (x_copy rfl rfl rfl rfl q43) ?_
          refine wpR_nil ?_
          refine wpC_seq ?_
          refine wpC_cut (fun ρ => ρ 0 = (Sl.v r27) ∧ ρ 1 = (Value.int .i64 p1) ∧ ρ 7 = (Value.int .i64 (p2.len : Int)) ∧ True) ⟨e0, e1, e7, trivial⟩ ?_
          rintro ρ ⟨e0, e1, e7, -⟩
          refine wpC_region ?_
          refine rv (Sl.v r27) w29 rfl rfl rfl (x_move rfl e0) ?_
          refine rv (Value.int .i64 p1) w29 rfl rfl rfl (x_move rfl e1) ?_
          obtain ⟨r44, w30, q44, h⟩ := h
          refine rv (Sl.v r44) w30 rfl rfl rfl (x_sliceAt rfl rfl (congrArg some rfl) rfl rfl q44) ?_
          refine rv (Value.int .i64 (p2.len : Int)) w30 rfl rfl rfl (x_move rfl e7) ?_
          refine wpR_enter rfl rfl rfl (x_call (vs := [(Sl.v r44), (Value.int .i64 (p2.len : Int))]) rfl rfl (mapl_cons rfl (mapl_cons rfl mapl_nil)) Tryz.func57 NN_57 NB_57) (Calls.mono h ?_)
          rintro _ w31 ⟨r45, rfl, h⟩
          refine ⟨_, rfl, ?_⟩
          refine wpR_nil ?_
          refine wpC_seq ?_
          refine wpC_cut (fun ρ => ρ 0 = (Sl.v r27) ∧ True) ⟨e0, trivial⟩ ?_
          rintro ρ ⟨e0, -⟩
          refine wpC_region ?_
          refine rv (Sl.v r27) w31 rfl rfl rfl (x_move rfl e0) ?_
          refine rv (Sl.v r27) w31 rfl rfl rfl (x_assign rfl rfl) ?_
          refine wpR_nil ?_
          refine wpC_ret ?_
          exact ⟨.inl rfl, fun a ha => ⟨_, results_rep1 rfl ha rfl, r27, rfl, h⟩⟩

/-- sort.Search -/
def F54 (p0 : Int) (p1 : Value) (w0 : World) (K : Int → World → Prop) : Prop :=
  lp (fun (next9 : (Int × Int) → World → Prop) l9 w1 =>
    cnd (decide (l9.1 < l9.2))
      (
      cv Tryz.prog p1 [(Value.int .i64 (IntKind.i64.wrap (shrK .u64 (IntKind.u64.wrap (IntKind.i64.wrap (l9.1 + l9.2))) 1)))] (fun (r : Bool) => (Value.bool r)) w1 fun r11 w2 =>
      cnd (!r11)
        (
        next9 (IntKind.i64.wrap ((IntKind.i64.wrap (shrK .u64 (IntKind.u64.wrap (IntKind.i64.wrap (l9.1 + l9.2))) 1)) + 1), l9.2) w2
        )
        (
        next9 (l9.1, IntKind.i64.wrap (shrK .u64 (IntKind.u64.wrap (IntKind.i64.wrap (l9.1 + l9.2))) 1)) w2
        )
      )
      (
      K l9.1 w1
      )
  ) (0, p0) w0
set_option maxRecDepth 100000 in
theorem D54 (p0 : Int) (p1 : Value) (w0 : World) (K : Int → World → Prop) (h : F54 p0 p1 w0 K) : callC Tryz.prog 54 #[(Value.int .i64 p0), p1] (fun (r : Int) => (Value.int .i64 r)) w0 K := by
  unfold F54 at h
  refine calls_of_wpC Tryz.func54 rfl 26 rfl (by simp) ?_
  intro ρ hρ
  have e0 : ρ 0 = (Value.int .i64 p0) := hρ 0
  have e1 : ρ 1 = p1 := hρ 1
  clear hρ
  refine wpC_seq ?_
  refine wpC_region ?_
  refine rv (Value.int .i64 0) w0 rfl rfl rfl (x_assign rfl rfl) ?_
  refine wpR_nil ?_
  refine wpC_seq ?_
  refine wpC_cut (fun ρ => ρ 0 = (Value.int .i64 p0) ∧ ρ 1 = p1 ∧ True) ⟨e0, e1, trivial⟩ ?_
  rintro ρ ⟨e0, e1, -⟩
  refine wpC_region ?_
  refine rv (Value.int .i64 p0) w0 rfl rfl rfl (x_move rfl e0) ?_
  refine rv (Value.int .i64 0) w0 rfl rfl rfl (x_assign rfl rfl) ?_
  refine rv (Value.int .i64 p0) w0 rfl rfl rfl (x_assign rfl rfl) ?_
  refine wpR_nil ?_
  refine wpC_seq ?_
  refine wpC_block ?_
  obtain ⟨I9, μ9, hI9, hr9⟩ := h
  refine wpC_loop (fun (x : Int × Int) ρ => ρ 5 = (Value.int .i64 x.1) ∧ ρ 6 = (Value.int .i64 x.2) ∧ ρ 1 = p1 ∧ True) I9 μ9 (0, p0) ⟨rfl, rfl, e1, trivial⟩ hI9 ?_
  rintro l9 ρ w1 ⟨e5, e6, e1, -⟩ h
  replace h := hr9 l9 w1 h
  clear hr9 hI9
  refine wpC_seq ?_
  refine wpC_seq ?_
  refine wpC_region ?_
  refine rv (Value.int .i64 l9.1) w1 rfl rfl rfl (x_move rfl e5) ?_
  refine rv (Value.int .i64 l9.2) w1 rfl rfl rfl (x_move rfl e6) ?_
  refine rv (Value.bool (decide (l9.1 < l9.2))) w1 rfl rfl rfl (x_lss rfl rfl rfl) ?_
  refine wpR_nil ?_
  refine wpC_cond (b := decide (l9.1 < l9.2)) rfl (fun hc10 => ?_) (fun hc10 => ?_)
  · replace h := h.1 hc10
    refine wpC_skip ?_
    refine wpC_block ?_
    refine wpC_seq ?_
    refine wpC_cut (fun ρ => ρ 1 = p1 ∧ ρ 5 = (Value.int .i64 l9.1) ∧ ρ 6 = (Value.int .i64 l9.2) ∧ True) ⟨e1, e5, e6, trivial⟩ ?_
    rintro ρ ⟨e1, e5, e6, -⟩
    refine wpC_region ?_
    refine rv (Value.int .i64 l9.1) w1 rfl rfl rfl (x_move rfl e5) ?_
    refine rv (Value.int .i64 l9.2) w1 rfl rfl rfl (x_move rfl e6) ?_
    refine rv (Value.int .i64 (IntKind.i64.wrap (l9.1 + l9.2))) w1 rfl rfl rfl (x_add rfl rfl rfl) ?_
    refine rv (Value.int .u64 (IntKind.u64.wrap (IntKind.i64.wrap (l9.1 + l9.2)))) w1 rfl rfl rfl (x_convI rfl rfl IK_130 IK_3) ?_
    refine rv (Value.int .u64 (shrK .u64 (IntKind.u64.wrap (IntKind.i64.wrap (l9.1 + l9.2))) 1)) w1 rfl rfl rfl (x_shr rfl rfl rfl (by decide)) ?_
    refine rv (Value.int .i64 (IntKind.i64.wrap (shrK .u64 (IntKind.u64.wrap (IntKind.i64.wrap (l9.1 + l9.2))) 1))) w1 rfl rfl rfl (x_convI rfl rfl IK_3 IK_130) ?_
    refine rv (Value.int .i64 (IntKind.i64.wrap (shrK .u64 (IntKind.u64.wrap (IntKind.i64.wrap (l9.1 + l9.2))) 1))) w1 rfl rfl rfl (x_assign rfl rfl) ?_
    refine wpR_nil ?_
    refine wpC_seq ?_
    refine wpC_cut (fun ρ => ρ 1 = p1 ∧ ρ 5 = (Value.int .i64 l9.1) ∧ ρ 6 = (Value.int .i64 l9.2) ∧ ρ 7 = (Value.int .i64 (IntKind.i64.wrap (shrK .u64 (IntKind.u64.wrap (IntKind.i64.wrap (l9.1 + l9.2))) 1))) ∧ True) ⟨e1, e5, e6, rfl, trivial⟩ ?_
    rintro ρ ⟨e1, e5, e6, e7, -⟩
    refine wpC_region ?_
    refine rv p1 w1 rfl rfl rfl (x_move rfl e1) ?_
    refine rv (Value.int .i64 (IntKind.i64.wrap (shrK .u64 (IntKind.u64.wrap (IntKind.i64.wrap (l9.1 + l9.2))) 1))) w1 rfl rfl rfl (x_move rfl e7) ?_
    obtain ⟨f11, fi11, ca11, fn11, qv11, qf11, qn11, qb11, h⟩ := h
    refine wpR_enter rfl rfl rfl (x_callv (vs := [(Value.int .i64 (IntKind.i64.wrap (shrK .u64 (IntKind.u64.wrap (IntKind.i64.wrap (l9.1 + l9.2))) 1)))]) rfl ((show _ = p1 from rfl).trans qv11) (mapl_cons rfl mapl_nil) qf11 qn11 qb11) (Calls.mono h ?_)
    rintro _ w2 ⟨r11, rfl, h⟩
    refine ⟨_, rfl, ?_⟩
    refine rv (Value.bool (!r11)) w2 rfl rfl rfl (x_not rfl rfl) ?_
    refine wpR_nil ?_
    refine wpC_cond (b := !r11) rfl (fun hc12 => ?_) (fun hc12 => ?_)
    · replace h := h.1 hc12
      refine wpC_cut (fun ρ => ρ 1 = p1 ∧ ρ 6 = (Value.int .i64 l9.2) ∧ ρ 7 = (Value.int .i64 (IntKind.i64.wrap (shrK .u64 (IntKind.u64.wrap (IntKind.i64.wrap (l9.1 + l9.2))) 1))) ∧ True) ⟨e1, e6, e7, trivial⟩ ?_
      rintro ρ ⟨e1, e6, e7, -⟩
      refine wpC_region ?_
      refine rv (Value.int .i64 (IntKind.i64.wrap (shrK .u64 (IntKind.u64.wrap (IntKind.i64.wrap (l9.1 + l9.2))) 1))) w2 rfl rfl rfl (x_move rfl e7) ?_
      refine rv (Value.int .i64 (IntKind.i64.wrap ((IntKind.i64.wrap (shrK .u64 (IntKind.u64.wrap (IntKind.i64.wrap (l9.1 + l9.2))) 1)) + 1))) w2 rfl rfl rfl (x_add rfl rfl rfl) ?_
      refine rv (Value.int .i64 (IntKind.i64.wrap ((IntKind.i64.wrap (shrK .u64 (IntKind.u64.wrap (IntKind.i64.wrap (l9.1 + l9.2))) 1)) + 1))) w2 rfl rfl rfl (x_assign rfl rfl) ?_
      refine wpR_nil ?_
      exact ⟨(IntKind.i64.wrap ((IntKind.i64.wrap (shrK .u64 (IntKind.u64.wrap (IntKind.i64.wrap (l9.1 + l9.2))) 1)) + 1), l9.2), ⟨rfl, e6, e1, trivial⟩, h⟩
    · replace h := h.2 hc12
      refine wpC_cut (fun ρ => ρ 1 = p1 ∧ ρ 5 = (Value.int .i64 l9.1) ∧ ρ 7 = (Value.int .i64 (IntKind.i64.wrap (shrK .u64 (IntKind.u64.wrap (IntKind.i64.wrap (l9.1 + l9.2))) 1))) ∧ True) ⟨e1, e5, e7, trivial⟩ ?_
      rintro ρ ⟨e1, e5, e7, -⟩
      refine wpC_region ?_
      refine rv (Value.int .i64 (IntKind.i64.wrap (shrK .u64 (IntKind.u64.wrap (IntKind.i64.wrap (l9.1 + l9.2))) 1))) w2 rfl rfl rfl (x_move rfl e7) ?_
      refine rv (Value.int .i64 (IntKind.i64.wrap (shrK .u64 (IntKind.u64.wrap (IntKind.i64.wrap (l9.1 + l9.2))) 1))) w2 rfl rfl rfl (x_assign rfl rfl) ?_
      refine wpR_nil ?_
      exact ⟨(l9.1, IntKind.i64.wrap (shrK .u64 (IntKind.u64.wrap (IntKind.i64.wrap (l9.1 + l9.2))) 1)), ⟨e5, rfl, e1, trivial⟩, h⟩
  · replace h := h.2 hc10
    refine wpC_exit ?_
    refine wpC_seq ?_
    refine wpC_cut (fun ρ => ρ 5 = (Value.int .i64 l9.1) ∧ True) ⟨e5, trivial⟩ ?_
    rintro ρ ⟨e5, -⟩
    refine wpC_region ?_
    refine rv (Value.int .i64 l9.1) w1 rfl rfl rfl (x_move rfl e5) ?_
    refine rv (Value.int .i64 l9.1) w1 rfl rfl rfl (x_assign rfl rfl) ?_
    refine wpR_nil ?_
    refine wpC_ret ?_
    exact ⟨.inl rfl, fun a ha => ⟨_, results_rep1 rfl ha rfl, l9.1, rfl, h⟩⟩

/-- once.at$1 -/
def F55 (p0 : Int) (c1 : Addr) (c2 : Addr) (w0 : World) (K : Bool → World → Prop) : Prop :=
  jn (fun (J10 : Bool → World → Prop) => tk w0 fun w1 =>
    ld Sl.v (c1.add 1) w1 fun x11 =>
    ix x11 p0 2 fun p12 =>
    ld (Value.int .i64) c2 w1 fun x13 =>
    rn Tryz.prog (Instr.indexAt 83 (Value.pointer (some p12)) (Value.int .i64 1)) (fun a : Addr => Value.pointer (some a)) w1 fun p14 w2 =>
    (w2.cell? c2 = some (Value.int .i64 x13)) ∧
    (w2.cell? (c1.add 1) = some (Sl.v x11)) ∧
    ld (Value.int .i64) p14 w2 fun x15 =>
    J10 (decide (x13 < x15)) w2
  )
  fun l16 w3 =>
  K l16 w3
set_option maxRecDepth 100000 in
theorem D55 (p0 : Int) (c1 : Addr) (c2 : Addr) (w0 : World) (K : Bool → World → Prop) (h : F55 p0 c1 c2 w0 K) : callC Tryz.prog 55 #[(Value.int .i64 p0), (Value.pointer (some c1)), (Value.pointer (some c2))] (fun (r : Bool) => (Value.bool r)) w0 K := by
  unfold F55 at h
  refine calls_of_wpC Tryz.func55 rfl 13 rfl (by simp) ?_
  intro ρ hρ
  have e0 : ρ 0 = (Value.int .i64 p0) := hρ 0
  have e1 : ρ 1 = (Value.pointer (some c1)) := hρ 1
  have e2 : ρ 2 = (Value.pointer (some c2)) := hρ 2
  clear hρ
  refine wpC_seq ?_
  refine wpC_region ?_
  refine rv (Value.bool false) w0 rfl rfl rfl (x_assign rfl rfl) ?_
  refine wpR_nil ?_
  refine wpC_seq ?_
  refine wpC_cut (fun ρ => ρ 0 = (Value.int .i64 p0) ∧ ρ 1 = (Value.pointer (some c1)) ∧ ρ 2 = (Value.pointer (some c2)) ∧ True) ⟨e0, e1, e2, trivial⟩ ?_
  rintro ρ ⟨e0, e1, e2, -⟩
  obtain ⟨J10, h, hk⟩ := h
  refine wpC_drawJ (by kernel_rfl) (fun (x : Bool) ρ => ρ 4 = (Value.bool x) ∧ True) J10 ?_ ?_
  · clear hk
    unfold tk at h
    generalize w0.drew = w1 at h ⊢
    refine wpD_take (v := (Value.pointer (some (c1.add 1)))) 0 (fun _ => True) rfl (by kernel_rfl) (by kernel_rfl) (by kernel_rfl) rfl rfl rfl trivial (fun w _ => (x_fieldAddr rfl e1 FA_38_1)) ?_
    obtain ⟨x11, q11, h⟩ := h
    refine wpD_take (v := (Sl.v x11)) 1 (fun w => w.cell? (c1.add 1) = some (Sl.v x11)) rfl (by kernel_rfl) (by kernel_rfl) (by kernel_rfl) rfl rfl rfl q11 (fun w q11 => (x_load1 rfl rfl SH_36 q11)) ?_
    refine wpD_take (v := (Value.int .i64 p0)) 2 (fun _ => True) rfl (by kernel_rfl) (by kernel_rfl) (by kernel_rfl) rfl rfl rfl trivial (fun w _ => (x_move (v := (Value.int .i64 p0)) rfl e0)) ?_
    obtain ⟨q12, z12, r12, h⟩ := h
    generalize hp12 : z12.add ((p0 : Int).toNat * 2) = p12 at h
    refine wpD_take (v := (Value.pointer (some p12))) 3 (fun _ => True) rfl (by kernel_rfl) (by kernel_rfl) (by kernel_rfl) rfl rfl rfl trivial (fun w _ => ((x_indexAddr (s := x11) rfl rfl rfl ES_36 q12 r12).trans (by rw [hp12]))) ?_
    obtain ⟨x13, q13, h⟩ := h
    refine wpD_take (v := (Value.int .i64 x13)) 6 (fun w => w.cell? c2 = some (Value.int .i64 x13)) rfl (by kernel_rfl) (by kernel_rfl) (by kernel_rfl) rfl rfl rfl q13 (fun w q13 => (x_load1 rfl e2 SH_3 q13)) ?_
    refine wpD_all (rs := [4]) (by kernel_rfl) (by simp) (allD_cons ?_ allD_nil)
    obtain ⟨p14, w2, q14, h⟩ := h
    obtain ⟨o6, h⟩ := h
    obtain ⟨o1, h⟩ := h
    refine stepD_valL (L' := [(6, fun w => w.cell? c2 = some (Value.int .i64 x13)), (2, fun _ => True), (1, fun w => w.cell? (c1.add 1) = some (Sl.v x11)), (0, fun _ => True)]) (v := (Value.pointer (some p14))) (w' := w2) rfl rfl rfl rfl (x_indexAt rfl rfl rfl q14) (by kernel_rfl) (held_cons o6 (held_cons trivial (held_cons o1 (held_cons trivial held_nil)))) ?_
    obtain ⟨x15, q15, h⟩ := h
    refine wpD_take (v := (Value.int .i64 x15)) 5 (fun w => w.cell? p14 = some (Value.int .i64 x15)) rfl (by kernel_rfl) (by kernel_rfl) (by kernel_rfl) rfl rfl rfl q15 (fun w q15 => (x_load1 rfl rfl SH_3 q15)) ?_
    refine wpD_take (v := (Value.bool (decide (x13 < x15)))) 7 (fun _ => True) rfl (by kernel_rfl) (by kernel_rfl) (by kernel_rfl) rfl rfl rfl trivial (fun w _ => (x_gtr rfl rfl rfl)) ?_
    refine wpD_take (v := (Value.bool (decide (x13 < x15)))) 8 (fun _ => True) rfl (by kernel_rfl) (by kernel_rfl) (by kernel_rfl) rfl rfl rfl trivial (fun w _ => (x_assign (v := (Value.bool (decide (x13 < x15)))) rfl rfl)) ?_
    exact wpD_done (by kernel_rfl) ⟨decide (x13 < x15), ⟨rfl, trivial⟩, h⟩
  clear h
  rintro l16 ρ w3 ⟨e4, -⟩ h
  replace h := hk l16 w3 h
  clear hk
  refine wpC_ret ?_
  exact ⟨.inl rfl, fun a ha => ⟨_, results_rep1 rfl ha e4, l16, rfl, h⟩⟩


end Go.Proofs.YtgbhghoppjfofaaGreat
