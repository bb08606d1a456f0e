import Derived.Test.YthnebjgmhdilbaaRows
import Derived.Test.YthnebjgmhdilbaaFs1
import Derived.Test.YthnebjgmhdilbaaDecRaw
namespace Go.Proofs.Ythnebjgmhdilbaa
open Go.Dec
set_option maxHeartbeats 400000

/-- lingualaw36.EchoGrows -/
def F5 (p0 : Sl) (p1 : Sl) (p2_0 : Int) (p2_1 : Int) (p2_2 : Int) (p2_3 : Int) (p2_4 : Int) (p3 : Int) (p4 : Int) (w0 : World) (K : Bool → World → Prop) : Prop :=
  nw 30 #[(Value.int .i64 p2_0), (Value.int .i64 p2_1), (Value.int .i64 p2_2), (Value.int .i64 p2_3), (Value.int .i64 p2_4)] w0 fun b1 w1 =>
  callC Try.prog 7 #[] (fun (r : Bool) => (Value.bool r)) w1 fun r2 w2 =>
  jn (fun J5 => cnd ((decide (40 < (p0.len : Int))) || (decide (20 < (p1.len : Int))))
    (
    J5 true w2
    )
    (
    callC Try.prog 15 #[(Sl.v p0)] (fun (r : Bool) => (Value.bool r)) w2 fun r7 w3 =>
    J5 (!r7) w3
    ))
  fun c8 w4 =>
  jn (fun J9 => cnd (c8)
    (
    J9 true w4
    )
    (
    callC Try.prog 15 #[(Sl.v p1)] (fun (r : Bool) => (Value.bool r)) w4 fun r11 w5 =>
    J9 (!r11) w5
    ))
  fun c12 w6 =>
  jn (fun J13 => cnd (c12)
    (
    J13 true w6
    )
    (
    ld (Value.int .i64) ((Addr.mk b1 0 none).add 0) w6 fun x15 =>
    ld (Value.int .i64) ((Addr.mk b1 0 none).add 1) w6 fun x16 =>
    ld (Value.int .i64) ((Addr.mk b1 0 none).add 2) w6 fun x17 =>
    ld (Value.int .i64) ((Addr.mk b1 0 none).add 3) w6 fun x18 =>
    ld (Value.int .i64) ((Addr.mk b1 0 none).add 4) w6 fun x19 =>
    nw 30 #[(Value.int .i64 x15), (Value.int .i64 x16), (Value.int .i64 x17), (Value.int .i64 x18), (Value.int .i64 x19)] w6 fun b20 w7 =>
    callC Try.prog 15 #[(Sl.v (⟨some ⟨b20, 0, none⟩, 1, 1⟩ : Sl))] (fun (r : Bool) => (Value.bool r)) w7 fun r21 w8 =>
    J13 (!r21) w8
    ))
  fun c22 w9 =>
  cnd (c22)
    (
    K r2 w9
    )
    (
    ld (Value.int .i64) ((Addr.mk b1 0 none).add 0) w9 fun x24 =>
    ld (Value.int .i64) ((Addr.mk b1 0 none).add 1) w9 fun x25 =>
    ld (Value.int .i64) ((Addr.mk b1 0 none).add 2) w9 fun x26 =>
    ld (Value.int .i64) ((Addr.mk b1 0 none).add 3) w9 fun x27 =>
    ld (Value.int .i64) ((Addr.mk b1 0 none).add 4) w9 fun x28 =>
    callC Try.prog 11 #[(Sl.v p0), (Value.agg #[(Value.int .i64 x24), (Value.int .i64 x25), (Value.int .i64 x26), (Value.int .i64 x27), (Value.int .i64 x28)]), (Value.int .i64 (IntKind.i64.wrap p3))] (fun (r : Int × Bool) => (Value.tuple #[(Value.int .i64 r.1), (Value.bool r.2)])) w9 fun r29 w10 =>
    jn (fun (J31 : (Int × Bool) → World → Prop) => tk w10 fun w11 =>
      ld (Value.int .i64) ((Addr.mk b1 0 none).add 0) w11 fun x32 =>
      ld (Value.int .i64) ((Addr.mk b1 0 none).add 1) w11 fun x33 =>
      ld (Value.int .i64) ((Addr.mk b1 0 none).add 2) w11 fun x34 =>
      ld (Value.int .i64) ((Addr.mk b1 0 none).add 3) w11 fun x35 =>
      ld (Value.int .i64) ((Addr.mk b1 0 none).add 4) w11 fun x36 =>
      nw 30 #[] w11 fun b37 w12 =>
      (w12.cell? ((Addr.mk b1 0 none).add 0) = some (Value.int .i64 x32) ∧ w12.cell? ((Addr.mk b1 0 none).add 1) = some (Value.int .i64 x33) ∧ w12.cell? ((Addr.mk b1 0 none).add 2) = some (Value.int .i64 x34) ∧ w12.cell? ((Addr.mk b1 0 none).add 3) = some (Value.int .i64 x35) ∧ w12.cell? ((Addr.mk b1 0 none).add 4) = some (Value.int .i64 x36)) ∧
      rn Try.prog (Builtin.append_ #[22, 22] 22 #[Sl.v (⟨some ⟨b37, 0, none⟩, 0, 0⟩ : Sl), Sl.v p1]) Sl.v w12 fun r38 w13 =>
      (w13.cell? ((Addr.mk b1 0 none).add 0) = some (Value.int .i64 x32) ∧ w13.cell? ((Addr.mk b1 0 none).add 1) = some (Value.int .i64 x33) ∧ w13.cell? ((Addr.mk b1 0 none).add 2) = some (Value.int .i64 x34) ∧ w13.cell? ((Addr.mk b1 0 none).add 3) = some (Value.int .i64 x35) ∧ w13.cell? ((Addr.mk b1 0 none).add 4) = some (Value.int .i64 x36)) ∧
      rn Try.prog (Builtin.append_ #[22, 22] 22 #[Sl.v r38, Sl.v p0]) Sl.v w13 fun r39 w14 =>
      (w14.cell? ((Addr.mk b1 0 none).add 0) = some (Value.int .i64 x32) ∧ w14.cell? ((Addr.mk b1 0 none).add 1) = some (Value.int .i64 x33) ∧ w14.cell? ((Addr.mk b1 0 none).add 2) = some (Value.int .i64 x34) ∧ w14.cell? ((Addr.mk b1 0 none).add 3) = some (Value.int .i64 x35) ∧ w14.cell? ((Addr.mk b1 0 none).add 4) = some (Value.int .i64 x36)) ∧
      callC Try.prog 11 #[(Sl.v r39), (Value.agg #[(Value.int .i64 x32), (Value.int .i64 x33), (Value.int .i64 x34), (Value.int .i64 x35), (Value.int .i64 x36)]), (Value.int .i64 (IntKind.i64.wrap p3))] (fun (r : Int × Bool) => (Value.tuple #[(Value.int .i64 r.1), (Value.bool r.2)])) w14 fun r40 w15 =>
      J31 (r40.1, r40.2) w15
    )
    fun l41 w16 =>
    cnd (r29.2 && ((!l41.2) || (!decide (l41.1 = (IntKind.i64.wrap (r29.1 + (p1.len : Int)))))))
      (
      K false w16
      )
      (
      lp (fun (next51 : (Sl × Int) → World → Prop) l51 w17 =>
        cnd (decide (l51.2 < (p1.len : Int)))
          (
          jn (fun (J53 : Sl → World → Prop) =>
            ix p1 l51.2 5 fun p55 =>
            ld (Value.int .i64) (p55.add 0) w17 fun x56 =>
            ld (Value.int .i64) (p55.add 1) w17 fun x57 =>
            ld (Value.int .i64) (p55.add 2) w17 fun x58 =>
            ld (Value.int .i64) (p55.add 3) w17 fun x59 =>
            ld (Value.int .i64) (p55.add 4) w17 fun x60 =>
            nw 30 #[(Value.int .i64 0), (Value.int .i64 0), (Value.int .i64 0), (Value.int .i64 0), (Value.int .i64 0)] w17 fun b61 w19 =>
            st (Addr.mk b61 0 none) [(Value.int .i64 x56), (Value.int .i64 x57), (Value.int .i64 x58), (Value.int .i64 x59), (Value.int .i64 x60)] w19 fun w20 =>
            ld (Value.int .i64) ((Addr.mk b61 0 none).add 2) w20 fun x63 =>
            ld (Value.int .i64) ((Addr.mk b1 0 none).add 2) w20 fun x64 =>
            jn (fun J65 => cnd (decide (x64 < x63))
              (
              J65 true w20
              )
              (
              ld (Value.int .i64) ((Addr.mk b1 0 none).add 2) w20 fun x67 =>
              ld (Value.int .i64) ((Addr.mk b61 0 none).add 2) w20 fun x68 =>
              J65 (decide ((IntKind.i64.wrap p3) < (IntKind.i64.wrap (x67 - x68)))) w20
              ))
            fun c69 w21 =>
            jn (fun J70 => cnd (c69)
              (
              J70 true w21
              )
              (
              ld (Value.int .i64) ((Addr.mk b61 0 none).add 0) w21 fun x72 =>
              ld (Value.int .i64) ((Addr.mk b61 0 none).add 1) w21 fun x73 =>
              ld (Value.int .i64) ((Addr.mk b61 0 none).add 2) w21 fun x74 =>
              ld (Value.int .i64) ((Addr.mk b61 0 none).add 3) w21 fun x75 =>
              ld (Value.int .i64) ((Addr.mk b61 0 none).add 4) w21 fun x76 =>
              ld (Value.int .i64) ((Addr.mk b1 0 none).add 0) w21 fun x77 =>
              ld (Value.int .i64) ((Addr.mk b1 0 none).add 1) w21 fun x78 =>
              ld (Value.int .i64) ((Addr.mk b1 0 none).add 2) w21 fun x79 =>
              ld (Value.int .i64) ((Addr.mk b1 0 none).add 3) w21 fun x80 =>
              ld (Value.int .i64) ((Addr.mk b1 0 none).add 4) w21 fun x81 =>
              callC Try.prog 13 #[(Value.agg #[(Value.int .i64 x72), (Value.int .i64 x73), (Value.int .i64 x74), (Value.int .i64 x75), (Value.int .i64 x76)]), (Value.agg #[(Value.int .i64 x77), (Value.int .i64 x78), (Value.int .i64 x79), (Value.int .i64 x80), (Value.int .i64 x81)])] (fun (r : Int) => (Value.int .i64 r)) w21 fun r82 w22 =>
              J70 (decide (r82 < 3)) w22
              ))
            fun c83 w23 =>
            cnd (c83)
              (
              ld (Value.int .i64) ((Addr.mk b61 0 none).add 0) w23 fun x85 =>
              ld (Value.int .i64) ((Addr.mk b61 0 none).add 1) w23 fun x86 =>
              ld (Value.int .i64) ((Addr.mk b61 0 none).add 2) w23 fun x87 =>
              ld (Value.int .i64) ((Addr.mk b61 0 none).add 3) w23 fun x88 =>
              ld (Value.int .i64) ((Addr.mk b61 0 none).add 4) w23 fun x89 =>
              nw 30 #[(Value.int .i64 x85), (Value.int .i64 x86), (Value.int .i64 x87), (Value.int .i64 x88), (Value.int .i64 x89)] w23 fun b90 w24 =>
              rn Try.prog (Builtin.append_ #[22, 22] 22 #[Sl.v l51.1, Sl.v (⟨some ⟨b90, 0, none⟩, 1, 1⟩ : Sl)]) Sl.v w24 fun r91 w25 =>
              J53 r91 w25
              )
              (
              J53 l51.1 w23
              )
          )
          fun l54 w18 =>
          next51 (l54, IntKind.i64.wrap (l51.2 + 1)) w18
          )
          (
          jn (fun (J93 : (Int × Bool) → World → Prop) => tk w17 fun w26 =>
            ld (Value.int .i64) ((Addr.mk b1 0 none).add 0) w26 fun x94 =>
            ld (Value.int .i64) ((Addr.mk b1 0 none).add 1) w26 fun x95 =>
            ld (Value.int .i64) ((Addr.mk b1 0 none).add 2) w26 fun x96 =>
            ld (Value.int .i64) ((Addr.mk b1 0 none).add 3) w26 fun x97 =>
            ld (Value.int .i64) ((Addr.mk b1 0 none).add 4) w26 fun x98 =>
            nw 30 #[] w26 fun b99 w27 =>
            (w27.cell? ((Addr.mk b1 0 none).add 0) = some (Value.int .i64 x94) ∧ w27.cell? ((Addr.mk b1 0 none).add 1) = some (Value.int .i64 x95) ∧ w27.cell? ((Addr.mk b1 0 none).add 2) = some (Value.int .i64 x96) ∧ w27.cell? ((Addr.mk b1 0 none).add 3) = some (Value.int .i64 x97) ∧ w27.cell? ((Addr.mk b1 0 none).add 4) = some (Value.int .i64 x98)) ∧
            rn Try.prog (Builtin.append_ #[22, 22] 22 #[Sl.v (⟨some ⟨b99, 0, none⟩, 0, 0⟩ : Sl), Sl.v p0]) Sl.v w27 fun r100 w28 =>
            (w28.cell? ((Addr.mk b1 0 none).add 0) = some (Value.int .i64 x94) ∧ w28.cell? ((Addr.mk b1 0 none).add 1) = some (Value.int .i64 x95) ∧ w28.cell? ((Addr.mk b1 0 none).add 2) = some (Value.int .i64 x96) ∧ w28.cell? ((Addr.mk b1 0 none).add 3) = some (Value.int .i64 x97) ∧ w28.cell? ((Addr.mk b1 0 none).add 4) = some (Value.int .i64 x98)) ∧
            rn Try.prog (Builtin.append_ #[22, 22] 22 #[Sl.v r100, Sl.v l51.1]) Sl.v w28 fun r101 w29 =>
            (w29.cell? ((Addr.mk b1 0 none).add 0) = some (Value.int .i64 x94) ∧ w29.cell? ((Addr.mk b1 0 none).add 1) = some (Value.int .i64 x95) ∧ w29.cell? ((Addr.mk b1 0 none).add 2) = some (Value.int .i64 x96) ∧ w29.cell? ((Addr.mk b1 0 none).add 3) = some (Value.int .i64 x97) ∧ w29.cell? ((Addr.mk b1 0 none).add 4) = some (Value.int .i64 x98)) ∧
            callC Try.prog 11 #[(Sl.v r101), (Value.agg #[(Value.int .i64 x94), (Value.int .i64 x95), (Value.int .i64 x96), (Value.int .i64 x97), (Value.int .i64 x98)]), (Value.int .i64 (IntKind.i64.wrap p3))] (fun (r : Int × Bool) => (Value.tuple #[(Value.int .i64 r.1), (Value.bool r.2)])) w29 fun r102 w30 =>
            J93 (r102.1, r102.2) w30
          )
          fun l103 w31 =>
          ld (Value.int .i64) ((Addr.mk b1 0 none).add 0) w31 fun x104 =>
          ld (Value.int .i64) ((Addr.mk b1 0 none).add 1) w31 fun x105 =>
          ld (Value.int .i64) ((Addr.mk b1 0 none).add 2) w31 fun x106 =>
          ld (Value.int .i64) ((Addr.mk b1 0 none).add 3) w31 fun x107 =>
          ld (Value.int .i64) ((Addr.mk b1 0 none).add 4) w31 fun x108 =>
          callC Try.prog 11 #[(Sl.v p0), (Value.agg #[(Value.int .i64 x104), (Value.int .i64 x105), (Value.int .i64 x106), (Value.int .i64 x107), (Value.int .i64 x108)]), (Value.int .i64 (IntKind.i64.wrap ((IntKind.i64.wrap p3) + (IntKind.i64.wrap p4))))] (fun (r : Int × Bool) => (Value.tuple #[(Value.int .i64 r.1), (Value.bool r.2)])) w31 fun r109 w32 =>
          K (((r2 && (l103.2 == r29.2)) && (decide (l103.1 = r29.1))) && ((!r29.2) || r109.2)) w32
          )
      ) (Sl.nil, 0) w16
      )
    )
set_option maxRecDepth 100000 in
theorem D5 (p0 : Sl) (p1 : Sl) (p2_0 : Int) (p2_1 : Int) (p2_2 : Int) (p2_3 : Int) (p2_4 : Int) (p3 : Int) (p4 : Int) (w0 : World) (K : Bool → World → Prop) (h : F5 p0 p1 p2_0 p2_1 p2_2 p2_3 p2_4 p3 p4 w0 K) : callC Try.prog 5 #[(Sl.v p0), (Sl.v p1), (Value.agg #[(Value.int .i64 p2_0), (Value.int .i64 p2_1), (Value.int .i64 p2_2), (Value.int .i64 p2_3), (Value.int .i64 p2_4)]), (Value.int .u16 p3), (Value.int .u16 p4)] (fun (r : Bool) => (Value.bool r)) w0 K := by
  unfold F5 at h
  refine calls_of_wpC Try.func5 rfl 158 rfl (by simp) ?_
  intro ρ hρ
  have e0 : ρ 0 = (Sl.v p0) := hρ 0
  have e1 : ρ 1 = (Sl.v p1) := hρ 1
  have e2 : ρ 2 = (Value.agg #[(Value.int .i64 p2_0), (Value.int .i64 p2_1), (Value.int .i64 p2_2), (Value.int .i64 p2_3), (Value.int .i64 p2_4)]) := hρ 2
  have e3 : ρ 3 = (Value.int .u16 p3) := hρ 3
  have e4 : ρ 4 = (Value.int .u16 p4) := hρ 4
  clear hρ
  refine wpC_seq ?_
  refine wpC_region ?_
  obtain ⟨b1, hb1⟩ : ∃ u, u = w0.heap.size := ⟨_, rfl⟩
  obtain ⟨w1, hw1⟩ : ∃ u, u = w0.alloc (.cells #[(Value.int .i64 p2_0), (Value.int .i64 p2_1), (Value.int .i64 p2_2), (Value.int .i64 p2_3), (Value.int .i64 p2_4)] 30) := ⟨_, rfl⟩
  replace h := h b1 w1 hb1 hw1
  refine wpR_val (v := (Value.pointer (some (Addr.mk b1 0 none)))) (w' := w1) rfl rfl rfl ((x_box (v := (Value.agg #[(Value.int .i64 p2_0), (Value.int .i64 p2_1), (Value.int .i64 p2_2), (Value.int .i64 p2_3), (Value.int .i64 p2_4)])) rfl e2).trans (by rw [hb1, hw1]; rfl)) ?_
  refine wpR_val (v := (Value.bool false)) (w' := w1) rfl rfl rfl (x_assign (v := (Value.bool false)) rfl rfl) ?_
  refine wpR_nil ?_
  refine wpC_seq ?_
  refine wpC_cut (fun ρ => ρ 0 = (Sl.v p0) ∧ ρ 1 = (Sl.v p1) ∧ ρ 3 = (Value.int .u16 p3) ∧ ρ 4 = (Value.int .u16 p4) ∧ ρ 7 = (Value.pointer (some (Addr.mk b1 0 none))) ∧ True) ⟨e0, e1, e3, e4, rfl, trivial⟩ ?_
  rintro ρ ⟨e0, e1, e3, e4, e7, -⟩
  refine wpC_region ?_
  refine wpR_enter rfl rfl rfl (x_call (vs := []) rfl rfl mapl_nil Try.func7 NN_7 NB_7) (Calls.mono h ?_)
  rintro _ w2 ⟨r2, rfl, h⟩
  refine ⟨_, rfl, ?_⟩
  refine wpR_val (v := (Value.bool r2)) (w' := w2) rfl rfl rfl (x_assign (v := (Value.bool r2)) rfl rfl) ?_
  refine wpR_nil ?_
  refine wpC_seq ?_
  refine wpC_seq ?_
  refine wpC_cut (fun ρ => ρ 0 = (Sl.v p0) ∧ ρ 1 = (Sl.v p1) ∧ ρ 3 = (Value.int .u16 p3) ∧ ρ 4 = (Value.int .u16 p4) ∧ ρ 7 = (Value.pointer (some (Addr.mk b1 0 none))) ∧ ρ 11 = (Value.bool r2) ∧ True) ⟨e0, e1, e3, e4, e7, rfl, trivial⟩ ?_
  rintro ρ ⟨e0, e1, e3, e4, e7, e11, -⟩
  refine wpC_region ?_
  refine wpR_val (v := (Sl.v p0)) (w' := w2) rfl rfl rfl (x_move (v := (Sl.v p0)) rfl e0) ?_
  refine wpR_val (v := (Value.int .i64 (p0.len : Int))) (w' := w2) rfl rfl rfl (x_lenS (s := p0) rfl rfl isSliceT_22) ?_
  refine wpR_val (v := (Value.bool (decide (40 < (p0.len : Int))))) (w' := w2) rfl rfl rfl (x_gtr rfl rfl rfl) ?_
  refine wpR_val (v := (Value.bool (decide (40 < (p0.len : Int))))) (w' := w2) rfl rfl rfl (x_move (v := (Value.bool (decide (40 < (p0.len : Int))))) rfl rfl) ?_
  refine wpR_joinJ 4 (fun (_ : Unit) ρ => ρ 31 = Value.bool ((decide (40 < (p0.len : Int))) || (decide (20 < (p1.len : Int)))) ∧ ρ 0 = (Sl.v p0) ∧ ρ 1 = (Sl.v p1) ∧ ρ 3 = (Value.int .u16 p3) ∧ ρ 4 = (Value.int .u16 p4) ∧ ρ 7 = (Value.pointer (some (Addr.mk b1 0 none))) ∧ ρ 11 = (Value.bool r2) ∧ True) (fun _ w => w2 = w) ?_ ?_
  · clear h
    rcases Bool.eq_false_or_eq_true (decide (40 < (p0.len : Int))) with hc4 | hc4
    · skip
      refine wpR_pass (wantN rfl rfl rfl hc4) rfl rfl ?_
      refine wpR_pass (wantN rfl rfl rfl hc4) rfl rfl ?_
      refine wpR_pass (wantN rfl rfl rfl hc4) rfl rfl ?_
      refine wpR_val (v := (Value.bool true)) (w' := w2) rfl rfl rfl (x_pickT (v := (Value.bool true)) rfl rfl hc4 rfl) ?_
      refine wpR_nil ?_
      exact ⟨(), ⟨(by rw [hc4]; rfl), e0, e1, e3, e4, e7, e11, trivial⟩, rfl⟩
    · skip
      refine wpR_val (v := (Sl.v p1)) (w' := w2) (wantG rfl rfl rfl hc4) rfl rfl (x_move (v := (Sl.v p1)) rfl e1) ?_
      refine wpR_val (v := (Value.int .i64 (p1.len : Int))) (w' := w2) (wantG rfl rfl rfl hc4) rfl rfl (x_lenS (s := p1) rfl rfl isSliceT_22) ?_
      refine wpR_val (v := (Value.bool (decide (20 < (p1.len : Int))))) (w' := w2) (wantG rfl rfl rfl hc4) rfl rfl (x_gtr rfl rfl rfl) ?_
      refine wpR_val (v := (Value.bool (decide (20 < (p1.len : Int))))) (w' := w2) rfl rfl rfl (x_pickF (v := (Value.bool (decide (20 < (p1.len : Int))))) rfl rfl hc4 rfl) ?_
      refine wpR_nil ?_
      exact ⟨(), ⟨(by rw [hc4]; rfl), e0, e1, e3, e4, e7, e11, trivial⟩, rfl⟩
  rintro _ ρ wj ⟨e31, e0, e1, e3, e4, e7, e11, -⟩ rfl
  refine wpR_val (v := (Value.bool ((decide (40 < (p0.len : Int))) || (decide (20 < (p1.len : Int)))))) (w' := w2) rfl rfl rfl (x_move (v := (Value.bool ((decide (40 < (p0.len : Int))) || (decide (20 < (p1.len : Int)))))) rfl e31) ?_
  obtain ⟨J5, h, hk⟩ := h
  refine wpR_joinJ 4 (fun x ρ => ρ 36 = Value.bool x ∧ ρ 0 = (Sl.v p0) ∧ ρ 1 = (Sl.v p1) ∧ ρ 3 = (Value.int .u16 p3) ∧ ρ 4 = (Value.int .u16 p4) ∧ ρ 7 = (Value.pointer (some (Addr.mk b1 0 none))) ∧ ρ 11 = (Value.bool r2) ∧ True) (J5) ?_ ?_
  · clear hk
    rcases Bool.eq_false_or_eq_true ((decide (40 < (p0.len : Int))) || (decide (20 < (p1.len : Int)))) with hc6 | hc6
    · replace h := h.1 hc6
      refine wpR_pass (wantN rfl rfl rfl hc6) rfl rfl ?_
      refine wpR_pass (wantN rfl rfl rfl hc6) rfl rfl ?_
      refine wpR_pass (wantN rfl rfl rfl hc6) rfl rfl ?_
      refine wpR_val (v := (Value.bool true)) (w' := w2) rfl rfl rfl (x_pickT (v := (Value.bool true)) rfl rfl hc6 rfl) ?_
      refine wpR_nil ?_
      exact ⟨true, ⟨rfl, e0, e1, e3, e4, e7, e11, trivial⟩, h⟩
    · replace h := h.2 hc6
      refine wpR_val (v := (Sl.v p0)) (w' := w2) (wantG rfl rfl rfl hc6) rfl rfl (x_move (v := (Sl.v p0)) rfl e0) ?_
      refine wpR_enter (wantG rfl rfl rfl hc6) rfl rfl (x_call (vs := [(Sl.v p0)]) rfl rfl (mapl_cons rfl mapl_nil) Try.func15 NN_15 NB_15) (Calls.mono h ?_)
      rintro _ w3 ⟨r7, rfl, h⟩
      refine ⟨_, rfl, ?_⟩
      refine wpR_val (v := (Value.bool (!r7))) (w' := w3) (wantG rfl rfl rfl hc6) rfl rfl (x_not rfl rfl) ?_
      refine wpR_val (v := (Value.bool (!r7))) (w' := w3) rfl rfl rfl (x_pickF (v := (Value.bool (!r7))) rfl rfl hc6 rfl) ?_
      refine wpR_nil ?_
      exact ⟨!r7, ⟨rfl, e0, e1, e3, e4, e7, e11, trivial⟩, h⟩
  clear h
  rintro c8 ρ w4 ⟨e36, e0, e1, e3, e4, e7, e11, -⟩ h
  replace h := hk c8 w4 h
  clear hk
  refine wpR_val (v := (Value.bool c8)) (w' := w4) rfl rfl rfl (x_move (v := (Value.bool c8)) rfl e36) ?_
  obtain ⟨J9, h, hk⟩ := h
  refine wpR_joinJ 4 (fun x ρ => ρ 41 = Value.bool x ∧ ρ 0 = (Sl.v p0) ∧ ρ 1 = (Sl.v p1) ∧ ρ 3 = (Value.int .u16 p3) ∧ ρ 4 = (Value.int .u16 p4) ∧ ρ 7 = (Value.pointer (some (Addr.mk b1 0 none))) ∧ ρ 11 = (Value.bool r2) ∧ True) (J9) ?_ ?_
  · clear hk
    rcases Bool.eq_false_or_eq_true (c8) with hc10 | hc10
    · replace h := h.1 hc10
      refine wpR_pass (wantN rfl rfl rfl hc10) rfl rfl ?_
      refine wpR_pass (wantN rfl rfl rfl hc10) rfl rfl ?_
      refine wpR_pass (wantN rfl rfl rfl hc10) rfl rfl ?_
      refine wpR_val (v := (Value.bool true)) (w' := w4) rfl rfl rfl (x_pickT (v := (Value.bool true)) rfl rfl hc10 rfl) ?_
      refine wpR_nil ?_
      exact ⟨true, ⟨rfl, e0, e1, e3, e4, e7, e11, trivial⟩, h⟩
    · replace h := h.2 hc10
      refine wpR_val (v := (Sl.v p1)) (w' := w4) (wantG rfl rfl rfl hc10) rfl rfl (x_move (v := (Sl.v p1)) rfl e1) ?_
      refine wpR_enter (wantG rfl rfl rfl hc10) rfl rfl (x_call (vs := [(Sl.v p1)]) rfl rfl (mapl_cons rfl mapl_nil) Try.func15 NN_15 NB_15) (Calls.mono h ?_)
      rintro _ w5 ⟨r11, rfl, h⟩
      refine ⟨_, rfl, ?_⟩
      refine wpR_val (v := (Value.bool (!r11))) (w' := w5) (wantG rfl rfl rfl hc10) rfl rfl (x_not rfl rfl) ?_
      refine wpR_val (v := (Value.bool (!r11))) (w' := w5) rfl rfl rfl (x_pickF (v := (Value.bool (!r11))) rfl rfl hc10 rfl) ?_
      refine wpR_nil ?_
      exact ⟨!r11, ⟨rfl, e0, e1, e3, e4, e7, e11, trivial⟩, h⟩
  clear h
  rintro c12 ρ w6 ⟨e41, e0, e1, e3, e4, e7, e11, -⟩ h
  replace h := hk c12 w6 h
  clear hk
  refine wpR_val (v := (Value.bool c12)) (w' := w6) rfl rfl rfl (x_move (v := (Value.bool c12)) rfl e41) ?_
  obtain ⟨J13, h, hk⟩ := h
  refine wpR_joinJ 5 (fun x ρ => ρ 47 = Value.bool x ∧ ρ 0 = (Sl.v p0) ∧ ρ 1 = (Sl.v p1) ∧ ρ 3 = (Value.int .u16 p3) ∧ ρ 4 = (Value.int .u16 p4) ∧ ρ 7 = (Value.pointer (some (Addr.mk b1 0 none))) ∧ ρ 11 = (Value.bool r2) ∧ True) (J13) ?_ ?_
  · clear hk
    rcases Bool.eq_false_or_eq_true (c12) with hc14 | hc14
    · replace h := h.1 hc14
      refine wpR_pass (wantN rfl rfl rfl hc14) rfl rfl ?_
      refine wpR_pass (wantN rfl rfl rfl hc14) rfl rfl ?_
      refine wpR_pass (wantN rfl rfl rfl hc14) rfl rfl ?_
      refine wpR_pass (wantN rfl rfl rfl hc14) rfl rfl ?_
      refine wpR_val (v := (Value.bool true)) (w' := w6) rfl rfl rfl (x_pickT (v := (Value.bool true)) rfl rfl hc14 rfl) ?_
      refine wpR_nil ?_
      exact ⟨true, ⟨rfl, e0, e1, e3, e4, e7, e11, trivial⟩, h⟩
    · replace h := h.2 hc14
      obtain ⟨x15, q15, h⟩ := h
      obtain ⟨x16, q16, h⟩ := h
      obtain ⟨x17, q17, h⟩ := h
      obtain ⟨x18, q18, h⟩ := h
      obtain ⟨x19, q19, h⟩ := h
      refine wpR_val (v := (Value.agg #[(Value.int .i64 x15), (Value.int .i64 x16), (Value.int .i64 x17), (Value.int .i64 x18), (Value.int .i64 x19)])) (w' := w6) (wantG rfl rfl rfl hc14) rfl rfl (x_loadN [(Value.int .i64 x15), (Value.int .i64 x16), (Value.int .i64 x17), (Value.int .i64 x18), (Value.int .i64 x19)] rfl e7 SH_30 (CellsAt.out (CellsAt.cons q15 (CellsAt.cons q16 (CellsAt.cons q17 (CellsAt.cons q18 (CellsAt.cons q19 CellsAt.nil))))))) ?_
      obtain ⟨b20, hb20⟩ : ∃ u, u = w6.heap.size := ⟨_, rfl⟩
      obtain ⟨w7, hw20⟩ : ∃ u, u = w6.alloc (.cells #[(Value.int .i64 x15), (Value.int .i64 x16), (Value.int .i64 x17), (Value.int .i64 x18), (Value.int .i64 x19)] 30) := ⟨_, rfl⟩
      replace h := h b20 w7 hb20 hw20
      refine wpR_val (v := (Sl.v (⟨some ⟨b20, 0, none⟩, 1, 1⟩ : Sl))) (w' := w7) (wantG rfl rfl rfl hc14) rfl rfl ((x_buildSlice (qs := [(0, (Value.agg #[(Value.int .i64 x15), (Value.int .i64 x16), (Value.int .i64 x17), (Value.int .i64 x18), (Value.int .i64 x19)]))]) rfl (by rfl) (BS_22_1_0 x15 x16 x17 x18 x19)).trans (by rw [← hb20, ← hw20])) ?_
      refine wpR_enter (wantG rfl rfl rfl hc14) rfl rfl (x_call (vs := [(Sl.v (⟨some ⟨b20, 0, none⟩, 1, 1⟩ : Sl))]) rfl rfl (mapl_cons rfl mapl_nil) Try.func15 NN_15 NB_15) (Calls.mono h ?_)
      rintro _ w8 ⟨r21, rfl, h⟩
      refine ⟨_, rfl, ?_⟩
      refine wpR_val (v := (Value.bool (!r21))) (w' := w8) (wantG rfl rfl rfl hc14) rfl rfl (x_not rfl rfl) ?_
      refine wpR_val (v := (Value.bool (!r21))) (w' := w8) rfl rfl rfl (x_pickF (v := (Value.bool (!r21))) rfl rfl hc14 rfl) ?_
      refine wpR_nil ?_
      exact ⟨!r21, ⟨rfl, e0, e1, e3, e4, e7, e11, trivial⟩, h⟩
  clear h
  rintro c22 ρ w9 ⟨e47, e0, e1, e3, e4, e7, e11, -⟩ h
  replace h := hk c22 w9 h
  clear hk
  refine wpR_nil ?_
  refine wpC_cond (b := c22) e47 (fun hc23 => ?_) (fun hc23 => ?_)
  · replace h := h.1 hc23
    refine wpC_seq ?_
    refine wpC_region ?_
    refine wpR_val (v := (Value.bool r2)) (w' := w9) rfl rfl rfl (x_move (v := (Value.bool r2)) rfl e11) ?_
    refine wpR_val (v := (Value.bool r2)) (w' := w9) rfl rfl rfl (x_assign (v := (Value.bool r2)) rfl rfl) ?_
    refine wpR_nil ?_
    refine wpC_ret ?_
    exact ⟨.inl rfl, fun a ha => ⟨_, results_rep1 rfl ha rfl, r2, rfl, h⟩⟩
  · replace h := h.2 hc23
    refine wpC_skip ?_
    refine wpC_seq ?_
    refine wpC_region ?_
    refine wpR_val (v := (Sl.v p0)) (w' := w9) rfl rfl rfl (x_move (v := (Sl.v p0)) rfl e0) ?_
    obtain ⟨x24, q24, h⟩ := h
    obtain ⟨x25, q25, h⟩ := h
    obtain ⟨x26, q26, h⟩ := h
    obtain ⟨x27, q27, h⟩ := h
    obtain ⟨x28, q28, h⟩ := h
    refine wpR_val (v := (Value.agg #[(Value.int .i64 x24), (Value.int .i64 x25), (Value.int .i64 x26), (Value.int .i64 x27), (Value.int .i64 x28)])) (w' := w9) rfl rfl rfl (x_loadN [(Value.int .i64 x24), (Value.int .i64 x25), (Value.int .i64 x26), (Value.int .i64 x27), (Value.int .i64 x28)] rfl e7 SH_30 (CellsAt.out (CellsAt.cons q24 (CellsAt.cons q25 (CellsAt.cons q26 (CellsAt.cons q27 (CellsAt.cons q28 CellsAt.nil))))))) ?_
    refine wpR_val (v := (Value.int .u16 p3)) (w' := w9) rfl rfl rfl (x_move (v := (Value.int .u16 p3)) rfl e3) ?_
    refine wpR_val (v := (Value.int .i64 (IntKind.i64.wrap p3))) (w' := w9) rfl rfl rfl (x_convI rfl rfl IK_3 IK_35) ?_
    refine wpR_enter rfl rfl rfl (x_call (vs := [(Sl.v p0), (Value.agg #[(Value.int .i64 x24), (Value.int .i64 x25), (Value.int .i64 x26), (Value.int .i64 x27), (Value.int .i64 x28)]), (Value.int .i64 (IntKind.i64.wrap p3))]) rfl rfl (mapl_cons rfl (mapl_cons rfl (mapl_cons rfl mapl_nil))) Try.func11 NN_11 NB_11) (Calls.mono h ?_)
    rintro _ w10 ⟨r29, rfl, h⟩
    refine ⟨_, rfl, ?_⟩
    refine wpR_val (v := (Value.tuple #[(Value.int .i64 r29.1), (Value.bool r29.2)])) (w' := w10) rfl rfl rfl (x_move (v := (Value.tuple #[(Value.int .i64 r29.1), (Value.bool r29.2)])) rfl rfl) ?_
    refine wpR_val (v := (Value.int .i64 r29.1)) (w' := w10) rfl rfl rfl (x_extract rfl rfl rfl) ?_
    refine wpR_val (v := (Value.bool r29.2)) (w' := w10) rfl rfl rfl (x_extract rfl rfl rfl) ?_
    refine wpR_val (v := (Value.int .i64 r29.1)) (w' := w10) rfl rfl rfl (x_assign (v := (Value.int .i64 r29.1)) rfl rfl) ?_
    refine wpR_val (v := (Value.bool r29.2)) (w' := w10) rfl rfl rfl (x_assign (v := (Value.bool r29.2)) rfl rfl) ?_
    refine wpR_nil ?_
    refine wpC_seq ?_
    refine wpC_cut (fun ρ => ρ 0 = (Sl.v p0) ∧ ρ 1 = (Sl.v p1) ∧ ρ 3 = (Value.int .u16 p3) ∧ ρ 4 = (Value.int .u16 p4) ∧ ρ 7 = (Value.pointer (some (Addr.mk b1 0 none))) ∧ ρ 11 = (Value.bool r2) ∧ ρ 12 = (Value.int .i64 r29.1) ∧ ρ 13 = (Value.bool r29.2) ∧ True) ⟨e0, e1, e3, e4, e7, e11, rfl, rfl, trivial⟩ ?_
    rintro ρ ⟨e0, e1, e3, e4, e7, e11, e12, e13, -⟩
    obtain ⟨J31, h, hk⟩ := h
    refine wpC_drawJ (by kernel_rfl) (fun (x : Int × Bool) ρ => ρ 14 = (Value.int .i64 x.1) ∧ ρ 15 = (Value.bool x.2) ∧ ρ 0 = (Sl.v p0) ∧ ρ 1 = (Sl.v p1) ∧ ρ 3 = (Value.int .u16 p3) ∧ ρ 4 = (Value.int .u16 p4) ∧ ρ 7 = (Value.pointer (some (Addr.mk b1 0 none))) ∧ ρ 11 = (Value.bool r2) ∧ ρ 12 = (Value.int .i64 r29.1) ∧ ρ 13 = (Value.bool r29.2) ∧ True) J31 ?_ ?_
    · clear hk
      unfold tk at h
      generalize w10.drew = w11 at h ⊢
      refine wpD_take (v := (Sl.v p1)) 1 (fun _ => True) rfl (by kernel_rfl) (by kernel_rfl) (by kernel_rfl) rfl rfl rfl trivial (fun w _ => (x_move (v := (Sl.v p1)) rfl e1)) ?_
      refine wpD_take (v := (Sl.v p0)) 3 (fun _ => True) rfl (by kernel_rfl) (by kernel_rfl) (by kernel_rfl) rfl rfl rfl trivial (fun w _ => (x_move (v := (Sl.v p0)) rfl e0)) ?_
      obtain ⟨x32, q32, h⟩ := h
      obtain ⟨x33, q33, h⟩ := h
      obtain ⟨x34, q34, h⟩ := h
      obtain ⟨x35, q35, h⟩ := h
      obtain ⟨x36, q36, h⟩ := h
      refine wpD_take (v := (Value.agg #[(Value.int .i64 x32), (Value.int .i64 x33), (Value.int .i64 x34), (Value.int .i64 x35), (Value.int .i64 x36)])) 5 (fun w => w.cell? ((Addr.mk b1 0 none).add 0) = some (Value.int .i64 x32) ∧ w.cell? ((Addr.mk b1 0 none).add 1) = some (Value.int .i64 x33) ∧ w.cell? ((Addr.mk b1 0 none).add 2) = some (Value.int .i64 x34) ∧ w.cell? ((Addr.mk b1 0 none).add 3) = some (Value.int .i64 x35) ∧ w.cell? ((Addr.mk b1 0 none).add 4) = some (Value.int .i64 x36)) rfl (by kernel_rfl) (by kernel_rfl) (by kernel_rfl) rfl rfl rfl ⟨q32, q33, q34, q35, q36⟩ (fun w ⟨q32, q33, q34, q35, q36⟩ => (x_loadN [(Value.int .i64 x32), (Value.int .i64 x33), (Value.int .i64 x34), (Value.int .i64 x35), (Value.int .i64 x36)] rfl e7 SH_30 (CellsAt.out (CellsAt.cons q32 (CellsAt.cons q33 (CellsAt.cons q34 (CellsAt.cons q35 (CellsAt.cons q36 CellsAt.nil)))))))) ?_
      refine wpD_take (v := (Value.int .u16 p3)) 6 (fun _ => True) rfl (by kernel_rfl) (by kernel_rfl) (by kernel_rfl) rfl rfl rfl trivial (fun w _ => (x_move (v := (Value.int .u16 p3)) rfl e3)) ?_
      refine wpD_take (v := (Value.int .i64 (IntKind.i64.wrap p3))) 7 (fun _ => True) rfl (by kernel_rfl) (by kernel_rfl) (by kernel_rfl) rfl rfl rfl trivial (fun w _ => (x_convI rfl rfl IK_3 IK_35)) ?_
      refine wpD_all (rs := [0]) (by kernel_rfl) (by simp) (allD_cons ?_ allD_nil)
      obtain ⟨b37, hb37⟩ : ∃ u, u = w11.heap.size := ⟨_, rfl⟩
      obtain ⟨w12, hw37⟩ : ∃ u, u = w11.alloc (.cells #[] 30) := ⟨_, rfl⟩
      replace h := h b37 w12 hb37 hw37
      obtain ⟨o5, h⟩ := h
      refine stepD_valL (L' := [(7, fun _ => True), (6, fun _ => True), (5, fun w => w.cell? ((Addr.mk b1 0 none).add 0) = some (Value.int .i64 x32) ∧ w.cell? ((Addr.mk b1 0 none).add 1) = some (Value.int .i64 x33) ∧ w.cell? ((Addr.mk b1 0 none).add 2) = some (Value.int .i64 x34) ∧ w.cell? ((Addr.mk b1 0 none).add 3) = some (Value.int .i64 x35) ∧ w.cell? ((Addr.mk b1 0 none).add 4) = some (Value.int .i64 x36)), (3, fun _ => True), (1, fun _ => True)]) (v := (Sl.v (⟨some ⟨b37, 0, none⟩, 0, 0⟩ : Sl))) (w' := w12) rfl rfl rfl rfl ((x_buildSlice (qs := []) rfl (by rfl) (BS_22_0_ )).trans (by rw [← hb37, ← hw37])) (by kernel_rfl) (held_cons trivial (held_cons trivial (held_cons o5 (held_cons trivial (held_cons trivial held_nil))))) ?_
      refine wpD_all (rs := [2]) (by kernel_rfl) (by simp) (allD_cons ?_ allD_nil)
      obtain ⟨r38, w13, q38, h⟩ := h
      obtain ⟨o5, h⟩ := h
      refine stepD_valL (L' := [(7, fun _ => True), (6, fun _ => True), (5, fun w => w.cell? ((Addr.mk b1 0 none).add 0) = some (Value.int .i64 x32) ∧ w.cell? ((Addr.mk b1 0 none).add 1) = some (Value.int .i64 x33) ∧ w.cell? ((Addr.mk b1 0 none).add 2) = some (Value.int .i64 x34) ∧ w.cell? ((Addr.mk b1 0 none).add 3) = some (Value.int .i64 x35) ∧ w.cell? ((Addr.mk b1 0 none).add 4) = some (Value.int .i64 x36)), (3, fun _ => True)]) (v := (Sl.v r38)) (w' := w13) rfl rfl rfl rfl (x_append (s := (⟨some ⟨b37, 0, none⟩, 0, 0⟩ : Sl)) (u := p1) rfl rfl rfl rfl q38) (by kernel_rfl) (held_cons trivial (held_cons trivial (held_cons o5 (held_cons trivial held_nil)))) ?_
      refine wpD_all (rs := [4]) (by kernel_rfl) (by simp) (allD_cons ?_ allD_nil)
      obtain ⟨r39, w14, q39, h⟩ := h
      obtain ⟨o5, h⟩ := h
      refine stepD_valL (L' := [(7, fun _ => True), (6, fun _ => True), (5, fun w => w.cell? ((Addr.mk b1 0 none).add 0) = some (Value.int .i64 x32) ∧ w.cell? ((Addr.mk b1 0 none).add 1) = some (Value.int .i64 x33) ∧ w.cell? ((Addr.mk b1 0 none).add 2) = some (Value.int .i64 x34) ∧ w.cell? ((Addr.mk b1 0 none).add 3) = some (Value.int .i64 x35) ∧ w.cell? ((Addr.mk b1 0 none).add 4) = some (Value.int .i64 x36))]) (v := (Sl.v r39)) (w' := w14) rfl rfl rfl rfl (x_append (s := r38) (u := p0) rfl rfl rfl rfl q39) (by kernel_rfl) (held_cons trivial (held_cons trivial (held_cons o5 held_nil))) ?_
      refine wpD_all (rs := [8]) (by kernel_rfl) (by simp) (allD_cons ?_ allD_nil)
      refine stepD_enterL (L' := [(6, fun _ => True)]) rfl rfl rfl rfl (x_call (vs := [(Sl.v r39), (Value.agg #[(Value.int .i64 x32), (Value.int .i64 x33), (Value.int .i64 x34), (Value.int .i64 x35), (Value.int .i64 x36)]), (Value.int .i64 (IntKind.i64.wrap p3))]) rfl rfl (mapl_cons rfl (mapl_cons rfl (mapl_cons rfl mapl_nil))) Try.func11 NN_11 NB_11) (by kernel_rfl) (Calls.mono h ?_)
      rintro _ w15 ⟨r40, rfl, h⟩
      refine ⟨_, rfl, (held_cons trivial held_nil), ?_⟩
      refine wpD_take (v := (Value.tuple #[(Value.int .i64 r40.1), (Value.bool r40.2)])) 9 (fun _ => True) rfl (by kernel_rfl) (by kernel_rfl) (by kernel_rfl) rfl rfl rfl trivial (fun w _ => (x_move (v := (Value.tuple #[(Value.int .i64 r40.1), (Value.bool r40.2)])) rfl rfl)) ?_
      refine wpD_take (v := (Value.int .i64 r40.1)) 10 (fun _ => True) rfl (by kernel_rfl) (by kernel_rfl) (by kernel_rfl) rfl rfl rfl trivial (fun w _ => (x_extract rfl rfl rfl)) ?_
      refine wpD_take (v := (Value.bool r40.2)) 11 (fun _ => True) rfl (by kernel_rfl) (by kernel_rfl) (by kernel_rfl) rfl rfl rfl trivial (fun w _ => (x_extract rfl rfl rfl)) ?_
      refine wpD_take (v := (Value.int .i64 r40.1)) 12 (fun _ => True) rfl (by kernel_rfl) (by kernel_rfl) (by kernel_rfl) rfl rfl rfl trivial (fun w _ => (x_assign (v := (Value.int .i64 r40.1)) rfl rfl)) ?_
      refine wpD_take (v := (Value.bool r40.2)) 13 (fun _ => True) rfl (by kernel_rfl) (by kernel_rfl) (by kernel_rfl) rfl rfl rfl trivial (fun w _ => (x_assign (v := (Value.bool r40.2)) rfl rfl)) ?_
      exact wpD_done (by kernel_rfl) ⟨(r40.1, r40.2), ⟨rfl, rfl, e0, e1, e3, e4, e7, e11, e12, e13, trivial⟩, h⟩
    clear h
    rintro l41 ρ w16 ⟨e14, e15, e0, e1, e3, e4, e7, e11, e12, e13, -⟩ h
    replace h := hk l41 w16 h
    clear hk
    refine wpC_seq ?_
    refine wpC_seq ?_
    refine wpC_region ?_
    refine wpR_val (v := (Value.bool r29.2)) (w' := w16) rfl rfl rfl (x_move (v := (Value.bool r29.2)) rfl e13) ?_
    refine wpR_val (v := (Value.bool r29.2)) (w' := w16) rfl rfl rfl (x_move (v := (Value.bool r29.2)) rfl rfl) ?_
    refine wpR_joinJ 11 (fun (_ : Unit) ρ => ρ 81 = Value.bool (r29.2 && ((!l41.2) || (!decide (l41.1 = (IntKind.i64.wrap (r29.1 + (p1.len : Int))))))) ∧ ρ 0 = (Sl.v p0) ∧ ρ 1 = (Sl.v p1) ∧ ρ 3 = (Value.int .u16 p3) ∧ ρ 4 = (Value.int .u16 p4) ∧ ρ 7 = (Value.pointer (some (Addr.mk b1 0 none))) ∧ ρ 11 = (Value.bool r2) ∧ ρ 12 = (Value.int .i64 r29.1) ∧ ρ 13 = (Value.bool r29.2) ∧ True) (fun _ w => w16 = w) ?_ ?_
    · clear h
      rcases Bool.eq_false_or_eq_true (r29.2) with hc43 | hc43
      · skip
        refine wpR_val (v := (Value.bool l41.2)) (w' := w16) (wantG rfl rfl rfl hc43) rfl rfl (x_move (v := (Value.bool l41.2)) rfl e15) ?_
        refine wpR_val (v := (Value.bool (!l41.2))) (w' := w16) (wantG rfl rfl rfl hc43) rfl rfl (x_not rfl rfl) ?_
        refine wpR_val (v := (Value.bool (!l41.2))) (w' := w16) (wantG rfl rfl rfl hc43) rfl rfl (x_move (v := (Value.bool (!l41.2))) rfl rfl) ?_
        refine wpR_joinJ 7 (fun (_ : Unit) ρ => ρ 80 = Value.bool ((!l41.2) || (!decide (l41.1 = (IntKind.i64.wrap (r29.1 + (p1.len : Int)))))) ∧ ρ 0 = (Sl.v p0) ∧ ρ 1 = (Sl.v p1) ∧ ρ 3 = (Value.int .u16 p3) ∧ ρ 4 = (Value.int .u16 p4) ∧ ρ 7 = (Value.pointer (some (Addr.mk b1 0 none))) ∧ ρ 11 = (Value.bool r2) ∧ ρ 12 = (Value.int .i64 r29.1) ∧ ρ 13 = (Value.bool r29.2) ∧ ρ 70 = (Value.bool r29.2) ∧ True) (fun _ w => w16 = w) ?_ ?_
        · clear h
          rcases Bool.eq_false_or_eq_true (!l41.2) with hc49 | hc49
          · skip
            refine wpR_pass (wantN rfl rfl rfl hc49) rfl rfl ?_
            refine wpR_pass (wantN rfl rfl rfl hc49) rfl rfl ?_
            refine wpR_pass (wantN rfl rfl rfl hc49) rfl rfl ?_
            refine wpR_pass (wantN rfl rfl rfl hc49) rfl rfl ?_
            refine wpR_pass (wantN rfl rfl rfl hc49) rfl rfl ?_
            refine wpR_pass (wantN rfl rfl rfl hc49) rfl rfl ?_
            refine wpR_val (v := (Value.bool true)) (w' := w16) (wantG rfl rfl rfl hc43) rfl rfl (x_pickT (v := (Value.bool true)) rfl rfl hc49 rfl) ?_
            refine wpR_nil ?_
            exact ⟨(), ⟨(by rw [hc49]; rfl), e0, e1, e3, e4, e7, e11, e12, e13, rfl, trivial⟩, rfl⟩
          · skip
            refine wpR_val (v := (Value.int .i64 l41.1)) (w' := w16) (wantG rfl rfl rfl hc49) rfl rfl (x_move (v := (Value.int .i64 l41.1)) rfl e14) ?_
            refine wpR_val (v := (Value.int .i64 r29.1)) (w' := w16) (wantG rfl rfl rfl hc49) rfl rfl (x_move (v := (Value.int .i64 r29.1)) rfl e12) ?_
            refine wpR_val (v := (Sl.v p1)) (w' := w16) (wantG rfl rfl rfl hc49) rfl rfl (x_move (v := (Sl.v p1)) rfl e1) ?_
            refine wpR_val (v := (Value.int .i64 (p1.len : Int))) (w' := w16) (wantG rfl rfl rfl hc49) rfl rfl (x_lenS (s := p1) rfl rfl isSliceT_22) ?_
            refine wpR_val (v := (Value.int .i64 (IntKind.i64.wrap (r29.1 + (p1.len : Int))))) (w' := w16) (wantG rfl rfl rfl hc49) rfl rfl (x_add rfl rfl rfl) ?_
            refine wpR_val (v := (Value.bool (!decide (l41.1 = (IntKind.i64.wrap (r29.1 + (p1.len : Int))))))) (w' := w16) (wantG rfl rfl rfl hc49) rfl rfl (x_neq rfl rfl rfl) ?_
            refine wpR_val (v := (Value.bool (!decide (l41.1 = (IntKind.i64.wrap (r29.1 + (p1.len : Int))))))) (w' := w16) (wantG rfl rfl rfl hc43) rfl rfl (x_pickF (v := (Value.bool (!decide (l41.1 = (IntKind.i64.wrap (r29.1 + (p1.len : Int))))))) rfl rfl hc49 rfl) ?_
            refine wpR_nil ?_
            exact ⟨(), ⟨(by rw [hc49]; rfl), e0, e1, e3, e4, e7, e11, e12, e13, rfl, trivial⟩, rfl⟩
        rintro _ ρ wj ⟨e80, e0, e1, e3, e4, e7, e11, e12, e13, e70, -⟩ rfl
        refine wpR_val (v := (Value.bool ((!l41.2) || (!decide (l41.1 = (IntKind.i64.wrap (r29.1 + (p1.len : Int)))))))) (w' := w16) rfl rfl rfl (x_pickT (v := (Value.bool ((!l41.2) || (!decide (l41.1 = (IntKind.i64.wrap (r29.1 + (p1.len : Int)))))))) rfl e70 hc43 e80) ?_
        refine wpR_nil ?_
        exact ⟨(), ⟨(by rw [hc43]; rfl), e0, e1, e3, e4, e7, e11, e12, e13, trivial⟩, rfl⟩
      · skip
        refine wpR_pass (wantN rfl rfl rfl hc43) rfl rfl ?_
        refine wpR_pass (wantN rfl rfl rfl hc43) rfl rfl ?_
        refine wpR_pass (wantN rfl rfl rfl hc43) rfl rfl ?_
        refine wpR_pass (wantU rfl rfl rfl) rfl rfl ?_
        refine wpR_pass (wantU rfl rfl rfl) rfl rfl ?_
        refine wpR_pass (wantU rfl rfl rfl) rfl rfl ?_
        refine wpR_pass (wantU rfl rfl rfl) rfl rfl ?_
        refine wpR_pass (wantU rfl rfl rfl) rfl rfl ?_
        refine wpR_pass (wantU rfl rfl rfl) rfl rfl ?_
        refine wpR_pass (wantN rfl rfl rfl hc43) rfl rfl ?_
        refine wpR_val (v := (Value.bool false)) (w' := w16) rfl rfl rfl (x_pickF (v := (Value.bool false)) rfl rfl hc43 rfl) ?_
        refine wpR_nil ?_
        exact ⟨(), ⟨(by rw [hc43]; rfl), e0, e1, e3, e4, e7, e11, e12, e13, trivial⟩, rfl⟩
    rintro _ ρ wj ⟨e81, e0, e1, e3, e4, e7, e11, e12, e13, -⟩ rfl
    refine wpR_nil ?_
    refine wpC_cond (b := r29.2 && ((!l41.2) || (!decide (l41.1 = (IntKind.i64.wrap (r29.1 + (p1.len : Int))))))) e81 (fun hc50 => ?_) (fun hc50 => ?_)
    · replace h := h.1 hc50
      refine wpC_seq ?_
      refine wpC_region ?_
      refine wpR_val (v := (Value.bool false)) (w' := w16) rfl rfl rfl (x_assign (v := (Value.bool false)) rfl rfl) ?_
      refine wpR_nil ?_
      refine wpC_ret ?_
      exact ⟨.inl rfl, fun a ha => ⟨_, results_rep1 rfl ha rfl, false, rfl, h⟩⟩
    · replace h := h.2 hc50
      refine wpC_skip ?_
      refine wpC_seq ?_
      refine wpC_region ?_
      refine wpR_val (v := (Sl.v Sl.nil)) (w' := w16) rfl rfl rfl (x_assign (v := (Sl.v Sl.nil)) rfl rfl) ?_
      refine wpR_nil ?_
      refine wpC_seq ?_
      refine wpC_seq ?_
      refine wpC_cut (fun ρ => ρ 0 = (Sl.v p0) ∧ ρ 1 = (Sl.v p1) ∧ ρ 3 = (Value.int .u16 p3) ∧ ρ 4 = (Value.int .u16 p4) ∧ ρ 7 = (Value.pointer (some (Addr.mk b1 0 none))) ∧ ρ 11 = (Value.bool r2) ∧ ρ 12 = (Value.int .i64 r29.1) ∧ ρ 13 = (Value.bool r29.2) ∧ ρ 16 = (Sl.v Sl.nil) ∧ True) ⟨e0, e1, e3, e4, e7, e11, e12, e13, rfl, trivial⟩ ?_
      rintro ρ ⟨e0, e1, e3, e4, e7, e11, e12, e13, e16, -⟩
      refine wpC_region ?_
      refine wpR_val (v := (Value.int .i64 0)) (w' := w16) rfl rfl rfl (x_assign (v := (Value.int .i64 0)) rfl rfl) ?_
      refine wpR_nil ?_
      refine wpC_block ?_
      obtain ⟨I51, μ51, hI51, hr51⟩ := h
      refine wpC_loop (fun (x : Sl × Int) ρ => ρ 16 = (Sl.v x.1) ∧ ρ 17 = (Value.int .i64 x.2) ∧ ρ 0 = (Sl.v p0) ∧ ρ 1 = (Sl.v p1) ∧ ρ 3 = (Value.int .u16 p3) ∧ ρ 4 = (Value.int .u16 p4) ∧ ρ 7 = (Value.pointer (some (Addr.mk b1 0 none))) ∧ ρ 11 = (Value.bool r2) ∧ ρ 12 = (Value.int .i64 r29.1) ∧ ρ 13 = (Value.bool r29.2) ∧ True) I51 μ51 (Sl.nil, 0) ⟨e16, rfl, e0, e1, e3, e4, e7, e11, e12, e13, trivial⟩ hI51 ?_
      rintro l51 ρ w17 ⟨e16, e17, e0, e1, e3, e4, e7, e11, e12, e13, -⟩ h
      replace h := hr51 l51 w17 h
      clear hr51 hI51
      refine wpC_seq ?_
      refine wpC_seq ?_
      refine wpC_region ?_
      refine wpR_val (v := (Value.int .i64 l51.2)) (w' := w17) rfl rfl rfl (x_move (v := (Value.int .i64 l51.2)) rfl e17) ?_
      refine wpR_val (v := (Sl.v p1)) (w' := w17) rfl rfl rfl (x_move (v := (Sl.v p1)) rfl e1) ?_
      refine wpR_val (v := (Value.int .i64 (p1.len : Int))) (w' := w17) rfl rfl rfl (x_lenS (s := p1) rfl rfl isSliceT_22) ?_
      refine wpR_val (v := (Value.bool (decide (l51.2 < (p1.len : Int))))) (w' := w17) rfl rfl rfl (x_lss rfl rfl rfl) ?_
      refine wpR_nil ?_
      refine wpC_cond (b := decide (l51.2 < (p1.len : Int))) rfl (fun hc52 => ?_) (fun hc52 => ?_)
      · replace h := h.1 hc52
        refine wpC_skip ?_
        obtain ⟨J53, h, hk⟩ := h
        refine wpC_seqJ (fun (x : Sl) ρ => ρ 16 = (Sl.v x) ∧ ρ 0 = (Sl.v p0) ∧ ρ 1 = (Sl.v p1) ∧ ρ 3 = (Value.int .u16 p3) ∧ ρ 4 = (Value.int .u16 p4) ∧ ρ 7 = (Value.pointer (some (Addr.mk b1 0 none))) ∧ ρ 11 = (Value.bool r2) ∧ ρ 12 = (Value.int .i64 r29.1) ∧ ρ 13 = (Value.bool r29.2) ∧ ρ 17 = (Value.int .i64 l51.2) ∧ True) J53 ?_ ?_
        · clear hk
          refine wpC_block ?_
          refine wpC_seq ?_
          refine wpC_cut (fun ρ => ρ 0 = (Sl.v p0) ∧ ρ 1 = (Sl.v p1) ∧ ρ 3 = (Value.int .u16 p3) ∧ ρ 4 = (Value.int .u16 p4) ∧ ρ 7 = (Value.pointer (some (Addr.mk b1 0 none))) ∧ ρ 11 = (Value.bool r2) ∧ ρ 12 = (Value.int .i64 r29.1) ∧ ρ 13 = (Value.bool r29.2) ∧ ρ 16 = (Sl.v l51.1) ∧ ρ 17 = (Value.int .i64 l51.2) ∧ True) ⟨e0, e1, e3, e4, e7, e11, e12, e13, e16, e17, trivial⟩ ?_
          rintro ρ ⟨e0, e1, e3, e4, e7, e11, e12, e13, e16, e17, -⟩
          refine wpC_region ?_
          refine wpR_val (v := (Sl.v p1)) (w' := w17) rfl rfl rfl (x_move (v := (Sl.v p1)) rfl e1) ?_
          refine wpR_val (v := (Value.int .i64 l51.2)) (w' := w17) rfl rfl rfl (x_move (v := (Value.int .i64 l51.2)) rfl e17) ?_
          obtain ⟨q55, z55, r55, h⟩ := h
          generalize hp55 : z55.add ((l51.2 : Int).toNat * 5) = p55 at h
          refine wpR_val (v := (Value.pointer (some p55))) (w' := w17) rfl rfl rfl ((x_indexAddr (s := p1) rfl rfl rfl ES_22 q55 r55).trans (by rw [hp55])) ?_
          obtain ⟨x56, q56, h⟩ := h
          obtain ⟨x57, q57, h⟩ := h
          obtain ⟨x58, q58, h⟩ := h
          obtain ⟨x59, q59, h⟩ := h
          obtain ⟨x60, q60, h⟩ := h
          refine wpR_val (v := (Value.agg #[(Value.int .i64 x56), (Value.int .i64 x57), (Value.int .i64 x58), (Value.int .i64 x59), (Value.int .i64 x60)])) (w' := w17) rfl rfl rfl (x_loadN [(Value.int .i64 x56), (Value.int .i64 x57), (Value.int .i64 x58), (Value.int .i64 x59), (Value.int .i64 x60)] rfl rfl SH_30 (CellsAt.out (CellsAt.cons q56 (CellsAt.cons q57 (CellsAt.cons q58 (CellsAt.cons q59 (CellsAt.cons q60 CellsAt.nil))))))) ?_
          obtain ⟨b61, hb61⟩ : ∃ u, u = w17.heap.size := ⟨_, rfl⟩
          obtain ⟨w19, hw61⟩ : ∃ u, u = w17.alloc (.cells #[(Value.int .i64 0), (Value.int .i64 0), (Value.int .i64 0), (Value.int .i64 0), (Value.int .i64 0)] 30) := ⟨_, rfl⟩
          replace h := h b61 w19 hb61 hw61
          refine wpR_val (v := (Value.pointer (some (Addr.mk b61 0 none)))) (w' := w19) rfl rfl rfl ((x_alloc rfl ZV_30).trans (by rw [hb61, hw61]; rfl)) ?_
          obtain ⟨q62, h⟩ := h
          obtain ⟨w20, hw62⟩ : ∃ u, u = setAll w19 (Addr.mk b61 0 none) [(Value.int .i64 x56), (Value.int .i64 x57), (Value.int .i64 x58), (Value.int .i64 x59), (Value.int .i64 x60)] 0 := ⟨_, rfl⟩
          replace h := h w20 hw62
          refine wpR_skp (w' := w20) rfl rfl ((x_store (v := (Value.agg #[(Value.int .i64 x56), (Value.int .i64 x57), (Value.int .i64 x58), (Value.int .i64 x59), (Value.int .i64 x60)])) rfl rfl rfl SZ_30 (ones (by rfl)) q62).trans (by rw [hw62]; rfl)) ?_
          refine wpR_nil ?_
          refine wpC_seq ?_
          refine wpC_cut (fun ρ => ρ 0 = (Sl.v p0) ∧ ρ 1 = (Sl.v p1) ∧ ρ 3 = (Value.int .u16 p3) ∧ ρ 4 = (Value.int .u16 p4) ∧ ρ 7 = (Value.pointer (some (Addr.mk b1 0 none))) ∧ ρ 11 = (Value.bool r2) ∧ ρ 12 = (Value.int .i64 r29.1) ∧ ρ 13 = (Value.bool r29.2) ∧ ρ 16 = (Sl.v l51.1) ∧ ρ 17 = (Value.int .i64 l51.2) ∧ ρ 18 = (Value.pointer (some (Addr.mk b61 0 none))) ∧ True) ⟨e0, e1, e3, e4, e7, e11, e12, e13, e16, e17, rfl, trivial⟩ ?_
          rintro ρ ⟨e0, e1, e3, e4, e7, e11, e12, e13, e16, e17, e18, -⟩
          refine wpC_region ?_
          refine wpR_val (v := (Value.pointer (some ((Addr.mk b61 0 none).add 2)))) (w' := w20) rfl rfl rfl (x_fieldAddr rfl e18 FA_30_2) ?_
          obtain ⟨x63, q63, h⟩ := h
          refine wpR_val (v := (Value.int .i64 x63)) (w' := w20) rfl rfl rfl (x_load1 rfl rfl SH_3 q63) ?_
          refine wpR_val (v := (Value.pointer (some ((Addr.mk b1 0 none).add 2)))) (w' := w20) rfl rfl rfl (x_fieldAddr rfl e7 FA_30_2) ?_
          obtain ⟨x64, q64, h⟩ := h
          refine wpR_val (v := (Value.int .i64 x64)) (w' := w20) rfl rfl rfl (x_load1 rfl rfl SH_3 q64) ?_
          refine wpR_val (v := (Value.bool (decide (x64 < x63)))) (w' := w20) rfl rfl rfl (x_gtr rfl rfl rfl) ?_
          refine wpR_val (v := (Value.bool (decide (x64 < x63)))) (w' := w20) rfl rfl rfl (x_move (v := (Value.bool (decide (x64 < x63)))) rfl rfl) ?_
          obtain ⟨J65, h, hk⟩ := h
          refine wpR_joinJ 9 (fun x ρ => ρ 106 = Value.bool x ∧ ρ 0 = (Sl.v p0) ∧ ρ 1 = (Sl.v p1) ∧ ρ 3 = (Value.int .u16 p3) ∧ ρ 4 = (Value.int .u16 p4) ∧ ρ 7 = (Value.pointer (some (Addr.mk b1 0 none))) ∧ ρ 11 = (Value.bool r2) ∧ ρ 12 = (Value.int .i64 r29.1) ∧ ρ 13 = (Value.bool r29.2) ∧ ρ 16 = (Sl.v l51.1) ∧ ρ 17 = (Value.int .i64 l51.2) ∧ ρ 18 = (Value.pointer (some (Addr.mk b61 0 none))) ∧ True) (J65) ?_ ?_
          · clear hk
            rcases Bool.eq_false_or_eq_true (decide (x64 < x63)) with hc66 | hc66
            · replace h := h.1 hc66
              refine wpR_pass (wantN rfl rfl rfl hc66) rfl rfl ?_
              refine wpR_pass (wantN rfl rfl rfl hc66) rfl rfl ?_
              refine wpR_pass (wantN rfl rfl rfl hc66) rfl rfl ?_
              refine wpR_pass (wantN rfl rfl rfl hc66) rfl rfl ?_
              refine wpR_pass (wantN rfl rfl rfl hc66) rfl rfl ?_
              refine wpR_pass (wantN rfl rfl rfl hc66) rfl rfl ?_
              refine wpR_pass (wantN rfl rfl rfl hc66) rfl rfl ?_
              refine wpR_pass (wantN rfl rfl rfl hc66) rfl rfl ?_
              refine wpR_val (v := (Value.bool true)) (w' := w20) rfl rfl rfl (x_pickT (v := (Value.bool true)) rfl rfl hc66 rfl) ?_
              refine wpR_nil ?_
              exact ⟨true, ⟨rfl, e0, e1, e3, e4, e7, e11, e12, e13, e16, e17, e18, trivial⟩, h⟩
            · replace h := h.2 hc66
              refine wpR_val (v := (Value.pointer (some ((Addr.mk b1 0 none).add 2)))) (w' := w20) (wantG rfl rfl rfl hc66) rfl rfl (x_fieldAddr rfl e7 FA_30_2) ?_
              obtain ⟨x67, q67, h⟩ := h
              refine wpR_val (v := (Value.int .i64 x67)) (w' := w20) (wantG rfl rfl rfl hc66) rfl rfl (x_load1 rfl rfl SH_3 q67) ?_
              refine wpR_val (v := (Value.pointer (some ((Addr.mk b61 0 none).add 2)))) (w' := w20) (wantG rfl rfl rfl hc66) rfl rfl (x_fieldAddr rfl e18 FA_30_2) ?_
              obtain ⟨x68, q68, h⟩ := h
              refine wpR_val (v := (Value.int .i64 x68)) (w' := w20) (wantG rfl rfl rfl hc66) rfl rfl (x_load1 rfl rfl SH_3 q68) ?_
              refine wpR_val (v := (Value.int .i64 (IntKind.i64.wrap (x67 - x68)))) (w' := w20) (wantG rfl rfl rfl hc66) rfl rfl (x_sub rfl rfl rfl) ?_
              refine wpR_val (v := (Value.int .u16 p3)) (w' := w20) (wantG rfl rfl rfl hc66) rfl rfl (x_move (v := (Value.int .u16 p3)) rfl e3) ?_
              refine wpR_val (v := (Value.int .i64 (IntKind.i64.wrap p3))) (w' := w20) (wantG rfl rfl rfl hc66) rfl rfl (x_convI rfl rfl IK_3 IK_35) ?_
              refine wpR_val (v := (Value.bool (decide ((IntKind.i64.wrap p3) < (IntKind.i64.wrap (x67 - x68)))))) (w' := w20) (wantG rfl rfl rfl hc66) rfl rfl (x_gtr rfl rfl rfl) ?_
              refine wpR_val (v := (Value.bool (decide ((IntKind.i64.wrap p3) < (IntKind.i64.wrap (x67 - x68)))))) (w' := w20) rfl rfl rfl (x_pickF (v := (Value.bool (decide ((IntKind.i64.wrap p3) < (IntKind.i64.wrap (x67 - x68)))))) rfl rfl hc66 rfl) ?_
              refine wpR_nil ?_
              exact ⟨decide ((IntKind.i64.wrap p3) < (IntKind.i64.wrap (x67 - x68))), ⟨rfl, e0, e1, e3, e4, e7, e11, e12, e13, e16, e17, e18, trivial⟩, h⟩
          clear h
          rintro c69 ρ w21 ⟨e106, e0, e1, e3, e4, e7, e11, e12, e13, e16, e17, e18, -⟩ h
          replace h := hk c69 w21 h
          clear hk
          refine wpR_val (v := (Value.bool c69)) (w' := w21) rfl rfl rfl (x_move (v := (Value.bool c69)) rfl e106) ?_
          obtain ⟨J70, h, hk⟩ := h
          refine wpR_joinJ 5 (fun x ρ => ρ 112 = Value.bool x ∧ ρ 0 = (Sl.v p0) ∧ ρ 1 = (Sl.v p1) ∧ ρ 3 = (Value.int .u16 p3) ∧ ρ 4 = (Value.int .u16 p4) ∧ ρ 7 = (Value.pointer (some (Addr.mk b1 0 none))) ∧ ρ 11 = (Value.bool r2) ∧ ρ 12 = (Value.int .i64 r29.1) ∧ ρ 13 = (Value.bool r29.2) ∧ ρ 16 = (Sl.v l51.1) ∧ ρ 17 = (Value.int .i64 l51.2) ∧ ρ 18 = (Value.pointer (some (Addr.mk b61 0 none))) ∧ True) (J70) ?_ ?_
          · clear hk
            rcases Bool.eq_false_or_eq_true (c69) with hc71 | hc71
            · replace h := h.1 hc71
              refine wpR_pass (wantN rfl rfl rfl hc71) rfl rfl ?_
              refine wpR_pass (wantN rfl rfl rfl hc71) rfl rfl ?_
              refine wpR_pass (wantN rfl rfl rfl hc71) rfl rfl ?_
              refine wpR_pass (wantN rfl rfl rfl hc71) rfl rfl ?_
              refine wpR_val (v := (Value.bool true)) (w' := w21) rfl rfl rfl (x_pickT (v := (Value.bool true)) rfl rfl hc71 rfl) ?_
              refine wpR_nil ?_
              exact ⟨true, ⟨rfl, e0, e1, e3, e4, e7, e11, e12, e13, e16, e17, e18, trivial⟩, h⟩
            · replace h := h.2 hc71
              obtain ⟨x72, q72, h⟩ := h
              obtain ⟨x73, q73, h⟩ := h
              obtain ⟨x74, q74, h⟩ := h
              obtain ⟨x75, q75, h⟩ := h
              obtain ⟨x76, q76, h⟩ := h
              refine wpR_val (v := (Value.agg #[(Value.int .i64 x72), (Value.int .i64 x73), (Value.int .i64 x74), (Value.int .i64 x75), (Value.int .i64 x76)])) (w' := w21) (wantG rfl rfl rfl hc71) rfl rfl (x_loadN [(Value.int .i64 x72), (Value.int .i64 x73), (Value.int .i64 x74), (Value.int .i64 x75), (Value.int .i64 x76)] rfl e18 SH_30 (CellsAt.out (CellsAt.cons q72 (CellsAt.cons q73 (CellsAt.cons q74 (CellsAt.cons q75 (CellsAt.cons q76 CellsAt.nil))))))) ?_
              obtain ⟨x77, q77, h⟩ := h
              obtain ⟨x78, q78, h⟩ := h
              obtain ⟨x79, q79, h⟩ := h
              obtain ⟨x80, q80, h⟩ := h
              obtain ⟨x81, q81, h⟩ := h
              refine wpR_val (v := (Value.agg #[(Value.int .i64 x77), (Value.int .i64 x78), (Value.int .i64 x79), (Value.int .i64 x80), (Value.int .i64 x81)])) (w' := w21) (wantG rfl rfl rfl hc71) rfl rfl (x_loadN [(Value.int .i64 x77), (Value.int .i64 x78), (Value.int .i64 x79), (Value.int .i64 x80), (Value.int .i64 x81)] rfl e7 SH_30 (CellsAt.out (CellsAt.cons q77 (CellsAt.cons q78 (CellsAt.cons q79 (CellsAt.cons q80 (CellsAt.cons q81 CellsAt.nil))))))) ?_
              refine wpR_enter (wantG rfl rfl rfl hc71) rfl rfl (x_call (vs := [(Value.agg #[(Value.int .i64 x72), (Value.int .i64 x73), (Value.int .i64 x74), (Value.int .i64 x75), (Value.int .i64 x76)]), (Value.agg #[(Value.int .i64 x77), (Value.int .i64 x78), (Value.int .i64 x79), (Value.int .i64 x80), (Value.int .i64 x81)])]) rfl rfl (mapl_cons rfl (mapl_cons rfl mapl_nil)) Try.func13 NN_13 NB_13) (Calls.mono h ?_)
              rintro _ w22 ⟨r82, rfl, h⟩
              refine ⟨_, rfl, ?_⟩
              refine wpR_val (v := (Value.bool (decide (r82 < 3)))) (w' := w22) (wantG rfl rfl rfl hc71) rfl rfl (x_lss rfl rfl rfl) ?_
              refine wpR_val (v := (Value.bool (decide (r82 < 3)))) (w' := w22) rfl rfl rfl (x_pickF (v := (Value.bool (decide (r82 < 3)))) rfl rfl hc71 rfl) ?_
              refine wpR_nil ?_
              exact ⟨decide (r82 < 3), ⟨rfl, e0, e1, e3, e4, e7, e11, e12, e13, e16, e17, e18, trivial⟩, h⟩
          clear h
          rintro c83 ρ w23 ⟨e112, e0, e1, e3, e4, e7, e11, e12, e13, e16, e17, e18, -⟩ h
          replace h := hk c83 w23 h
          clear hk
          refine wpR_nil ?_
          refine wpC_cond (b := c83) e112 (fun hc84 => ?_) (fun hc84 => ?_)
          · replace h := h.1 hc84
            refine wpC_region ?_
            refine wpR_val (v := (Sl.v l51.1)) (w' := w23) rfl rfl rfl (x_move (v := (Sl.v l51.1)) rfl e16) ?_
            obtain ⟨x85, q85, h⟩ := h
            obtain ⟨x86, q86, h⟩ := h
            obtain ⟨x87, q87, h⟩ := h
            obtain ⟨x88, q88, h⟩ := h
            obtain ⟨x89, q89, h⟩ := h
            refine wpR_val (v := (Value.agg #[(Value.int .i64 x85), (Value.int .i64 x86), (Value.int .i64 x87), (Value.int .i64 x88), (Value.int .i64 x89)])) (w' := w23) rfl rfl rfl (x_loadN [(Value.int .i64 x85), (Value.int .i64 x86), (Value.int .i64 x87), (Value.int .i64 x88), (Value.int .i64 x89)] rfl e18 SH_30 (CellsAt.out (CellsAt.cons q85 (CellsAt.cons q86 (CellsAt.cons q87 (CellsAt.cons q88 (CellsAt.cons q89 CellsAt.nil))))))) ?_
            obtain ⟨b90, hb90⟩ : ∃ u, u = w23.heap.size := ⟨_, rfl⟩
            obtain ⟨w24, hw90⟩ : ∃ u, u = w23.alloc (.cells #[(Value.int .i64 x85), (Value.int .i64 x86), (Value.int .i64 x87), (Value.int .i64 x88), (Value.int .i64 x89)] 30) := ⟨_, rfl⟩
            replace h := h b90 w24 hb90 hw90
            refine wpR_val (v := (Sl.v (⟨some ⟨b90, 0, none⟩, 1, 1⟩ : Sl))) (w' := w24) rfl rfl rfl ((x_buildSlice (qs := [(0, (Value.agg #[(Value.int .i64 x85), (Value.int .i64 x86), (Value.int .i64 x87), (Value.int .i64 x88), (Value.int .i64 x89)]))]) rfl (by rfl) (BS_22_1_0 x85 x86 x87 x88 x89)).trans (by rw [← hb90, ← hw90])) ?_
            obtain ⟨r91, w25, q91, h⟩ := h
            refine wpR_val (v := (Sl.v r91)) (w' := w25) rfl rfl rfl (x_append (s := l51.1) (u := (⟨some ⟨b90, 0, none⟩, 1, 1⟩ : Sl)) rfl rfl rfl rfl q91) ?_
            refine wpR_val (v := (Sl.v r91)) (w' := w25) rfl rfl rfl (x_assign (v := (Sl.v r91)) rfl rfl) ?_
            refine wpR_nil ?_
            exact ⟨r91, ⟨rfl, e0, e1, e3, e4, e7, e11, e12, e13, e17, trivial⟩, h⟩
          · replace h := h.2 hc84
            refine wpC_skip ?_
            exact ⟨l51.1, ⟨e16, e0, e1, e3, e4, e7, e11, e12, e13, e17, trivial⟩, h⟩
        clear h
        rintro l54 ρ w18 ⟨e16, e0, e1, e3, e4, e7, e11, e12, e13, e17, -⟩ h
        replace h := hk l54 w18 h
        clear hk
        refine wpC_region ?_
        refine wpR_val (v := (Value.int .i64 l51.2)) (w' := w18) rfl rfl rfl (x_move (v := (Value.int .i64 l51.2)) rfl e17) ?_
        refine wpR_val (v := (Value.int .i64 (IntKind.i64.wrap (l51.2 + 1)))) (w' := w18) rfl rfl rfl (x_add rfl rfl rfl) ?_
        refine wpR_val (v := (Value.int .i64 (IntKind.i64.wrap (l51.2 + 1)))) (w' := w18) rfl rfl rfl (x_assign (v := (Value.int .i64 (IntKind.i64.wrap (l51.2 + 1)))) rfl rfl) ?_
        refine wpR_nil ?_
        exact ⟨(l54, IntKind.i64.wrap (l51.2 + 1)), ⟨e16, rfl, e0, e1, e3, e4, e7, e11, e12, e13, trivial⟩, h⟩
      · replace h := h.2 hc52
        refine wpC_exit ?_
        refine wpC_seq ?_
        refine wpC_cut (fun ρ => ρ 0 = (Sl.v p0) ∧ ρ 3 = (Value.int .u16 p3) ∧ ρ 4 = (Value.int .u16 p4) ∧ ρ 7 = (Value.pointer (some (Addr.mk b1 0 none))) ∧ ρ 11 = (Value.bool r2) ∧ ρ 12 = (Value.int .i64 r29.1) ∧ ρ 13 = (Value.bool r29.2) ∧ ρ 16 = (Sl.v l51.1) ∧ True) ⟨e0, e3, e4, e7, e11, e12, e13, e16, trivial⟩ ?_
        rintro ρ ⟨e0, e3, e4, e7, e11, e12, e13, e16, -⟩
        obtain ⟨J93, h, hk⟩ := h
        refine wpC_drawJ (by kernel_rfl) (fun (x : Int × Bool) ρ => ρ 19 = (Value.int .i64 x.1) ∧ ρ 20 = (Value.bool x.2) ∧ ρ 0 = (Sl.v p0) ∧ ρ 3 = (Value.int .u16 p3) ∧ ρ 4 = (Value.int .u16 p4) ∧ ρ 7 = (Value.pointer (some (Addr.mk b1 0 none))) ∧ ρ 11 = (Value.bool r2) ∧ ρ 12 = (Value.int .i64 r29.1) ∧ ρ 13 = (Value.bool r29.2) ∧ True) J93 ?_ ?_
        · clear hk
          unfold tk at h
          generalize w17.drew = w26 at h ⊢
          refine wpD_take (v := (Sl.v p0)) 1 (fun _ => True) rfl (by kernel_rfl) (by kernel_rfl) (by kernel_rfl) rfl rfl rfl trivial (fun w _ => (x_move (v := (Sl.v p0)) rfl e0)) ?_
          refine wpD_take (v := (Sl.v l51.1)) 3 (fun _ => True) rfl (by kernel_rfl) (by kernel_rfl) (by kernel_rfl) rfl rfl rfl trivial (fun w _ => (x_move (v := (Sl.v l51.1)) rfl e16)) ?_
          obtain ⟨x94, q94, h⟩ := h
          obtain ⟨x95, q95, h⟩ := h
          obtain ⟨x96, q96, h⟩ := h
          obtain ⟨x97, q97, h⟩ := h
          obtain ⟨x98, q98, h⟩ := h
          refine wpD_take (v := (Value.agg #[(Value.int .i64 x94), (Value.int .i64 x95), (Value.int .i64 x96), (Value.int .i64 x97), (Value.int .i64 x98)])) 5 (fun w => w.cell? ((Addr.mk b1 0 none).add 0) = some (Value.int .i64 x94) ∧ w.cell? ((Addr.mk b1 0 none).add 1) = some (Value.int .i64 x95) ∧ w.cell? ((Addr.mk b1 0 none).add 2) = some (Value.int .i64 x96) ∧ w.cell? ((Addr.mk b1 0 none).add 3) = some (Value.int .i64 x97) ∧ w.cell? ((Addr.mk b1 0 none).add 4) = some (Value.int .i64 x98)) rfl (by kernel_rfl) (by kernel_rfl) (by kernel_rfl) rfl rfl rfl ⟨q94, q95, q96, q97, q98⟩ (fun w ⟨q94, q95, q96, q97, q98⟩ => (x_loadN [(Value.int .i64 x94), (Value.int .i64 x95), (Value.int .i64 x96), (Value.int .i64 x97), (Value.int .i64 x98)] rfl e7 SH_30 (CellsAt.out (CellsAt.cons q94 (CellsAt.cons q95 (CellsAt.cons q96 (CellsAt.cons q97 (CellsAt.cons q98 CellsAt.nil)))))))) ?_
          refine wpD_take (v := (Value.int .u16 p3)) 6 (fun _ => True) rfl (by kernel_rfl) (by kernel_rfl) (by kernel_rfl) rfl rfl rfl trivial (fun w _ => (x_move (v := (Value.int .u16 p3)) rfl e3)) ?_
          refine wpD_take (v := (Value.int .i64 (IntKind.i64.wrap p3))) 7 (fun _ => True) rfl (by kernel_rfl) (by kernel_rfl) (by kernel_rfl) rfl rfl rfl trivial (fun w _ => (x_convI rfl rfl IK_3 IK_35)) ?_
          refine wpD_all (rs := [0]) (by kernel_rfl) (by simp) (allD_cons ?_ allD_nil)
          obtain ⟨b99, hb99⟩ : ∃ u, u = w26.heap.size := ⟨_, rfl⟩
          obtain ⟨w27, hw99⟩ : ∃ u, u = w26.alloc (.cells #[] 30) := ⟨_, rfl⟩
          replace h := h b99 w27 hb99 hw99
          obtain ⟨o5, h⟩ := h
          refine stepD_valL (L' := [(7, fun _ => True), (6, fun _ => True), (5, fun w => w.cell? ((Addr.mk b1 0 none).add 0) = some (Value.int .i64 x94) ∧ w.cell? ((Addr.mk b1 0 none).add 1) = some (Value.int .i64 x95) ∧ w.cell? ((Addr.mk b1 0 none).add 2) = some (Value.int .i64 x96) ∧ w.cell? ((Addr.mk b1 0 none).add 3) = some (Value.int .i64 x97) ∧ w.cell? ((Addr.mk b1 0 none).add 4) = some (Value.int .i64 x98)), (3, fun _ => True), (1, fun _ => True)]) (v := (Sl.v (⟨some ⟨b99, 0, none⟩, 0, 0⟩ : Sl))) (w' := w27) rfl rfl rfl rfl ((x_buildSlice (qs := []) rfl (by rfl) (BS_22_0_ )).trans (by rw [← hb99, ← hw99])) (by kernel_rfl) (held_cons trivial (held_cons trivial (held_cons o5 (held_cons trivial (held_cons trivial held_nil))))) ?_
          refine wpD_all (rs := [2]) (by kernel_rfl) (by simp) (allD_cons ?_ allD_nil)
          obtain ⟨r100, w28, q100, h⟩ := h
          obtain ⟨o5, h⟩ := h
          refine stepD_valL (L' := [(7, fun _ => True), (6, fun _ => True), (5, fun w => w.cell? ((Addr.mk b1 0 none).add 0) = some (Value.int .i64 x94) ∧ w.cell? ((Addr.mk b1 0 none).add 1) = some (Value.int .i64 x95) ∧ w.cell? ((Addr.mk b1 0 none).add 2) = some (Value.int .i64 x96) ∧ w.cell? ((Addr.mk b1 0 none).add 3) = some (Value.int .i64 x97) ∧ w.cell? ((Addr.mk b1 0 none).add 4) = some (Value.int .i64 x98)), (3, fun _ => True)]) (v := (Sl.v r100)) (w' := w28) rfl rfl rfl rfl (x_append (s := (⟨some ⟨b99, 0, none⟩, 0, 0⟩ : Sl)) (u := p0) rfl rfl rfl rfl q100) (by kernel_rfl) (held_cons trivial (held_cons trivial (held_cons o5 (held_cons trivial held_nil)))) ?_
          refine wpD_all (rs := [4]) (by kernel_rfl) (by simp) (allD_cons ?_ allD_nil)
          obtain ⟨r101, w29, q101, h⟩ := h
          obtain ⟨o5, h⟩ := h
          refine stepD_valL (L' := [(7, fun _ => True), (6, fun _ => True), (5, fun w => w.cell? ((Addr.mk b1 0 none).add 0) = some (Value.int .i64 x94) ∧ w.cell? ((Addr.mk b1 0 none).add 1) = some (Value.int .i64 x95) ∧ w.cell? ((Addr.mk b1 0 none).add 2) = some (Value.int .i64 x96) ∧ w.cell? ((Addr.mk b1 0 none).add 3) = some (Value.int .i64 x97) ∧ w.cell? ((Addr.mk b1 0 none).add 4) = some (Value.int .i64 x98))]) (v := (Sl.v r101)) (w' := w29) rfl rfl rfl rfl (x_append (s := r100) (u := l51.1) rfl rfl rfl rfl q101) (by kernel_rfl) (held_cons trivial (held_cons trivial (held_cons o5 held_nil))) ?_
          refine wpD_all (rs := [8]) (by kernel_rfl) (by simp) (allD_cons ?_ allD_nil)
          refine stepD_enterL (L' := [(6, fun _ => True)]) rfl rfl rfl rfl (x_call (vs := [(Sl.v r101), (Value.agg #[(Value.int .i64 x94), (Value.int .i64 x95), (Value.int .i64 x96), (Value.int .i64 x97), (Value.int .i64 x98)]), (Value.int .i64 (IntKind.i64.wrap p3))]) rfl rfl (mapl_cons rfl (mapl_cons rfl (mapl_cons rfl mapl_nil))) Try.func11 NN_11 NB_11) (by kernel_rfl) (Calls.mono h ?_)
          rintro _ w30 ⟨r102, rfl, h⟩
          refine ⟨_, rfl, (held_cons trivial held_nil), ?_⟩
          refine wpD_take (v := (Value.tuple #[(Value.int .i64 r102.1), (Value.bool r102.2)])) 9 (fun _ => True) rfl (by kernel_rfl) (by kernel_rfl) (by kernel_rfl) rfl rfl rfl trivial (fun w _ => (x_move (v := (Value.tuple #[(Value.int .i64 r102.1), (Value.bool r102.2)])) rfl rfl)) ?_
          refine wpD_take (v := (Value.int .i64 r102.1)) 10 (fun _ => True) rfl (by kernel_rfl) (by kernel_rfl) (by kernel_rfl) rfl rfl rfl trivial (fun w _ => (x_extract rfl rfl rfl)) ?_
          refine wpD_take (v := (Value.bool r102.2)) 11 (fun _ => True) rfl (by kernel_rfl) (by kernel_rfl) (by kernel_rfl) rfl rfl rfl trivial (fun w _ => (x_extract rfl rfl rfl)) ?_
          refine wpD_take (v := (Value.int .i64 r102.1)) 12 (fun _ => True) rfl (by kernel_rfl) (by kernel_rfl) (by kernel_rfl) rfl rfl rfl trivial (fun w _ => (x_assign (v := (Value.int .i64 r102.1)) rfl rfl)) ?_
          refine wpD_take (v := (Value.bool r102.2)) 13 (fun _ => True) rfl (by kernel_rfl) (by kernel_rfl) (by kernel_rfl) rfl rfl rfl trivial (fun w _ => (x_assign (v := (Value.bool r102.2)) rfl rfl)) ?_
          exact wpD_done (by kernel_rfl) ⟨(r102.1, r102.2), ⟨rfl, rfl, e0, e3, e4, e7, e11, e12, e13, trivial⟩, h⟩
        clear h
        rintro l103 ρ w31 ⟨e19, e20, e0, e3, e4, e7, e11, e12, e13, -⟩ h
        replace h := hk l103 w31 h
        clear hk
        refine wpC_seq ?_
        refine wpC_region ?_
        refine wpR_val (v := (Sl.v p0)) (w' := w31) rfl rfl rfl (x_move (v := (Sl.v p0)) rfl e0) ?_
        obtain ⟨x104, q104, h⟩ := h
        obtain ⟨x105, q105, h⟩ := h
        obtain ⟨x106, q106, h⟩ := h
        obtain ⟨x107, q107, h⟩ := h
        obtain ⟨x108, q108, h⟩ := h
        refine wpR_val (v := (Value.agg #[(Value.int .i64 x104), (Value.int .i64 x105), (Value.int .i64 x106), (Value.int .i64 x107), (Value.int .i64 x108)])) (w' := w31) rfl rfl rfl (x_loadN [(Value.int .i64 x104), (Value.int .i64 x105), (Value.int .i64 x106), (Value.int .i64 x107), (Value.int .i64 x108)] rfl e7 SH_30 (CellsAt.out (CellsAt.cons q104 (CellsAt.cons q105 (CellsAt.cons q106 (CellsAt.cons q107 (CellsAt.cons q108 CellsAt.nil))))))) ?_
        refine wpR_val (v := (Value.int .u16 p3)) (w' := w31) rfl rfl rfl (x_move (v := (Value.int .u16 p3)) rfl e3) ?_
        refine wpR_val (v := (Value.int .i64 (IntKind.i64.wrap p3))) (w' := w31) rfl rfl rfl (x_convI rfl rfl IK_3 IK_35) ?_
        refine wpR_val (v := (Value.int .u16 p4)) (w' := w31) rfl rfl rfl (x_move (v := (Value.int .u16 p4)) rfl e4) ?_
        refine wpR_val (v := (Value.int .i64 (IntKind.i64.wrap p4))) (w' := w31) rfl rfl rfl (x_convI rfl rfl IK_3 IK_35) ?_
        refine wpR_val (v := (Value.int .i64 (IntKind.i64.wrap ((IntKind.i64.wrap p3) + (IntKind.i64.wrap p4))))) (w' := w31) rfl rfl rfl (x_add rfl rfl rfl) ?_
        refine wpR_enter rfl rfl rfl (x_call (vs := [(Sl.v p0), (Value.agg #[(Value.int .i64 x104), (Value.int .i64 x105), (Value.int .i64 x106), (Value.int .i64 x107), (Value.int .i64 x108)]), (Value.int .i64 (IntKind.i64.wrap ((IntKind.i64.wrap p3) + (IntKind.i64.wrap p4))))]) rfl rfl (mapl_cons rfl (mapl_cons rfl (mapl_cons rfl mapl_nil))) Try.func11 NN_11 NB_11) (Calls.mono h ?_)
        rintro _ w32 ⟨r109, rfl, h⟩
        refine ⟨_, rfl, ?_⟩
        refine wpR_val (v := (Value.tuple #[(Value.int .i64 r109.1), (Value.bool r109.2)])) (w' := w32) rfl rfl rfl (x_move (v := (Value.tuple #[(Value.int .i64 r109.1), (Value.bool r109.2)])) rfl rfl) ?_
        refine wpR_val (v := (Value.int .i64 r109.1)) (w' := w32) rfl rfl rfl (x_extract rfl rfl rfl) ?_
        refine wpR_val (v := (Value.bool r109.2)) (w' := w32) rfl rfl rfl (x_extract rfl rfl rfl) ?_
        refine wpR_val (v := (Value.int .i64 r109.1)) (w' := w32) rfl rfl rfl (x_assign (v := (Value.int .i64 r109.1)) rfl rfl) ?_
        refine wpR_val (v := (Value.bool r109.2)) (w' := w32) rfl rfl rfl (x_assign (v := (Value.bool r109.2)) rfl rfl) ?_
        refine wpR_nil ?_
        refine wpC_seq ?_
        refine wpC_cut (fun ρ => ρ 11 = (Value.bool r2) ∧ ρ 12 = (Value.int .i64 r29.1) ∧ ρ 13 = (Value.bool r29.2) ∧ ρ 19 = (Value.int .i64 l103.1) ∧ ρ 20 = (Value.bool l103.2) ∧ ρ 22 = (Value.bool r109.2) ∧ True) ⟨e11, e12, e13, e19, e20, rfl, trivial⟩ ?_
        rintro ρ ⟨e11, e12, e13, e19, e20, e22, -⟩
        refine wpC_region ?_
        refine wpR_val (v := (Value.bool r2)) (w' := w32) rfl rfl rfl (x_move (v := (Value.bool r2)) rfl e11) ?_
        refine wpR_val (v := (Value.bool r2)) (w' := w32) rfl rfl rfl (x_move (v := (Value.bool r2)) rfl rfl) ?_
        refine wpR_joinJ 4 (fun (_ : Unit) ρ => ρ 145 = Value.bool (r2 && (l103.2 == r29.2)) ∧ ρ 12 = (Value.int .i64 r29.1) ∧ ρ 13 = (Value.bool r29.2) ∧ ρ 19 = (Value.int .i64 l103.1) ∧ ρ 22 = (Value.bool r109.2) ∧ True) (fun _ w => w32 = w) ?_ ?_
        · clear h
          rcases Bool.eq_false_or_eq_true (r2) with hc111 | hc111
          · skip
            refine wpR_val (v := (Value.bool l103.2)) (w' := w32) (wantG rfl rfl rfl hc111) rfl rfl (x_move (v := (Value.bool l103.2)) rfl e20) ?_
            refine wpR_val (v := (Value.bool r29.2)) (w' := w32) (wantG rfl rfl rfl hc111) rfl rfl (x_move (v := (Value.bool r29.2)) rfl e13) ?_
            refine wpR_val (v := (Value.bool (l103.2 == r29.2))) (w' := w32) (wantG rfl rfl rfl hc111) rfl rfl (x_eqlB rfl rfl rfl isBoolT_4) ?_
            refine wpR_val (v := (Value.bool (l103.2 == r29.2))) (w' := w32) rfl rfl rfl (x_pickT (v := (Value.bool (l103.2 == r29.2))) rfl rfl hc111 rfl) ?_
            refine wpR_nil ?_
            exact ⟨(), ⟨(by rw [hc111]; rfl), e12, e13, e19, e22, trivial⟩, rfl⟩
          · skip
            refine wpR_pass (wantN rfl rfl rfl hc111) rfl rfl ?_
            refine wpR_pass (wantN rfl rfl rfl hc111) rfl rfl ?_
            refine wpR_pass (wantN rfl rfl rfl hc111) rfl rfl ?_
            refine wpR_val (v := (Value.bool false)) (w' := w32) rfl rfl rfl (x_pickF (v := (Value.bool false)) rfl rfl hc111 rfl) ?_
            refine wpR_nil ?_
            exact ⟨(), ⟨(by rw [hc111]; rfl), e12, e13, e19, e22, trivial⟩, rfl⟩
        rintro _ ρ wj ⟨e145, e12, e13, e19, e22, -⟩ rfl
        refine wpR_val (v := (Value.bool (r2 && (l103.2 == r29.2)))) (w' := w32) rfl rfl rfl (x_move (v := (Value.bool (r2 && (l103.2 == r29.2)))) rfl e145) ?_
        refine wpR_joinJ 4 (fun (_ : Unit) ρ => ρ 150 = Value.bool ((r2 && (l103.2 == r29.2)) && (decide (l103.1 = r29.1))) ∧ ρ 13 = (Value.bool r29.2) ∧ ρ 22 = (Value.bool r109.2) ∧ True) (fun _ w => w32 = w) ?_ ?_
        · clear h
          rcases Bool.eq_false_or_eq_true (r2 && (l103.2 == r29.2)) with hc113 | hc113
          · skip
            refine wpR_val (v := (Value.int .i64 l103.1)) (w' := w32) (wantG rfl rfl rfl hc113) rfl rfl (x_move (v := (Value.int .i64 l103.1)) rfl e19) ?_
            refine wpR_val (v := (Value.int .i64 r29.1)) (w' := w32) (wantG rfl rfl rfl hc113) rfl rfl (x_move (v := (Value.int .i64 r29.1)) rfl e12) ?_
            refine wpR_val (v := (Value.bool (decide (l103.1 = r29.1)))) (w' := w32) (wantG rfl rfl rfl hc113) rfl rfl (x_eql rfl rfl rfl) ?_
            refine wpR_val (v := (Value.bool (decide (l103.1 = r29.1)))) (w' := w32) rfl rfl rfl (x_pickT (v := (Value.bool (decide (l103.1 = r29.1)))) rfl rfl hc113 rfl) ?_
            refine wpR_nil ?_
            exact ⟨(), ⟨(by rw [hc113]; rfl), e13, e22, trivial⟩, rfl⟩
          · skip
            refine wpR_pass (wantN rfl rfl rfl hc113) rfl rfl ?_
            refine wpR_pass (wantN rfl rfl rfl hc113) rfl rfl ?_
            refine wpR_pass (wantN rfl rfl rfl hc113) rfl rfl ?_
            refine wpR_val (v := (Value.bool false)) (w' := w32) rfl rfl rfl (x_pickF (v := (Value.bool false)) rfl rfl hc113 rfl) ?_
            refine wpR_nil ?_
            exact ⟨(), ⟨(by rw [hc113]; rfl), e13, e22, trivial⟩, rfl⟩
        rintro _ ρ wj ⟨e150, e13, e22, -⟩ rfl
        refine wpR_val (v := (Value.bool ((r2 && (l103.2 == r29.2)) && (decide (l103.1 = r29.1))))) (w' := w32) rfl rfl rfl (x_move (v := (Value.bool ((r2 && (l103.2 == r29.2)) && (decide (l103.1 = r29.1))))) rfl e150) ?_
        refine wpR_joinJ 6 (fun (_ : Unit) ρ => ρ 157 = Value.bool (((r2 && (l103.2 == r29.2)) && (decide (l103.1 = r29.1))) && ((!r29.2) || r109.2)) ∧ True) (fun _ w => w32 = w) ?_ ?_
        · clear h
          rcases Bool.eq_false_or_eq_true ((r2 && (l103.2 == r29.2)) && (decide (l103.1 = r29.1))) with hc115 | hc115
          · skip
            refine wpR_val (v := (Value.bool r29.2)) (w' := w32) (wantG rfl rfl rfl hc115) rfl rfl (x_move (v := (Value.bool r29.2)) rfl e13) ?_
            refine wpR_val (v := (Value.bool (!r29.2))) (w' := w32) (wantG rfl rfl rfl hc115) rfl rfl (x_not rfl rfl) ?_
            refine wpR_val (v := (Value.bool (!r29.2))) (w' := w32) (wantG rfl rfl rfl hc115) rfl rfl (x_move (v := (Value.bool (!r29.2))) rfl rfl) ?_
            refine wpR_joinJ 2 (fun (_ : Unit) ρ => ρ 156 = Value.bool ((!r29.2) || r109.2) ∧ ρ 151 = (Value.bool ((r2 && (l103.2 == r29.2)) && (decide (l103.1 = r29.1)))) ∧ True) (fun _ w => w32 = w) ?_ ?_
            · clear h
              rcases Bool.eq_false_or_eq_true (!r29.2) with hc121 | hc121
              · skip
                refine wpR_pass (wantN rfl rfl rfl hc121) rfl rfl ?_
                refine wpR_val (v := (Value.bool true)) (w' := w32) (wantG rfl rfl rfl hc115) rfl rfl (x_pickT (v := (Value.bool true)) rfl rfl hc121 rfl) ?_
                refine wpR_nil ?_
                exact ⟨(), ⟨(by rw [hc121]; rfl), rfl, trivial⟩, rfl⟩
              · skip
                refine wpR_val (v := (Value.bool r109.2)) (w' := w32) (wantG rfl rfl rfl hc121) rfl rfl (x_move (v := (Value.bool r109.2)) rfl e22) ?_
                refine wpR_val (v := (Value.bool r109.2)) (w' := w32) (wantG rfl rfl rfl hc115) rfl rfl (x_pickF (v := (Value.bool r109.2)) rfl rfl hc121 rfl) ?_
                refine wpR_nil ?_
                exact ⟨(), ⟨(by rw [hc121]; rfl), rfl, trivial⟩, rfl⟩
            rintro _ ρ wj ⟨e156, e151, -⟩ rfl
            refine wpR_val (v := (Value.bool ((!r29.2) || r109.2))) (w' := w32) rfl rfl rfl (x_pickT (v := (Value.bool ((!r29.2) || r109.2))) rfl e151 hc115 e156) ?_
            refine wpR_nil ?_
            exact ⟨(), ⟨(by rw [hc115]; rfl), trivial⟩, rfl⟩
          · skip
            refine wpR_pass (wantN rfl rfl rfl hc115) rfl rfl ?_
            refine wpR_pass (wantN rfl rfl rfl hc115) rfl rfl ?_
            refine wpR_pass (wantN rfl rfl rfl hc115) rfl rfl ?_
            refine wpR_pass (wantU rfl rfl rfl) rfl rfl ?_
            refine wpR_pass (wantN rfl rfl rfl hc115) rfl rfl ?_
            refine wpR_val (v := (Value.bool false)) (w' := w32) rfl rfl rfl (x_pickF (v := (Value.bool false)) rfl rfl hc115 rfl) ?_
            refine wpR_nil ?_
            exact ⟨(), ⟨(by rw [hc115]; rfl), trivial⟩, rfl⟩
        rintro _ ρ wj ⟨e157, -⟩ rfl
        refine wpR_val (v := (Value.bool (((r2 && (l103.2 == r29.2)) && (decide (l103.1 = r29.1))) && ((!r29.2) || r109.2)))) (w' := w32) rfl rfl rfl (x_assign (v := (Value.bool (((r2 && (l103.2 == r29.2)) && (decide (l103.1 = r29.1))) && ((!r29.2) || r109.2)))) rfl e157) ?_
        refine wpR_nil ?_
        refine wpC_ret ?_
        exact ⟨.inl rfl, fun a ha => ⟨_, results_rep1 rfl ha rfl, ((r2 && (l103.2 == r29.2)) && (decide (l103.1 = r29.1))) && ((!r29.2) || r109.2), rfl, h⟩⟩

/-- lingualaw36.EchoAll -/
def F6 (p0 : Int) (p1 : Int) (p2 : Int) (p3 : Int) (w0 : World) (K : Bool → World → Prop) : Prop :=
  callC Try.prog 7 #[] (fun (r : Bool) => (Value.bool r)) w0 fun r1 w1 =>
  lp (fun (next2 : (Sl × Sl × Int) → World → Prop) l2 w2 =>
    cnd (decide (l2.2.2 < (IntKind.i64.wrap (p0.tmod 21))))
      (
      callC Try.prog 17 #[(Value.int .i64 (IntKind.i64.wrap (((IntKind.i64.wrap p1).tmod 12) + (IntKind.i64.wrap (12 * l2.2.2))))), (Value.int .i64 l2.2.2), (Value.int .i64 (-1))] (fun (r : Int × Int × Int × Int × Int) => (Value.agg #[(Value.int .i64 r.1), (Value.int .i64 r.2.1), (Value.int .i64 r.2.2.1), (Value.int .i64 r.2.2.2.1), (Value.int .i64 r.2.2.2.2)])) w2 fun r4 w3 =>
      nw 30 #[(Value.int .i64 r4.1), (Value.int .i64 r4.2.1), (Value.int .i64 r4.2.2.1), (Value.int .i64 r4.2.2.2.1), (Value.int .i64 r4.2.2.2.2)] w3 fun b5 w4 =>
      rn Try.prog (Builtin.append_ #[22, 22] 22 #[Sl.v l2.1, Sl.v (⟨some ⟨b5, 0, none⟩, 1, 1⟩ : Sl)]) Sl.v w4 fun r6 w5 =>
      callC Try.prog 17 #[(Value.int .i64 (IntKind.i64.wrap (((IntKind.i64.wrap ((IntKind.i64.wrap (((IntKind.i64.wrap p1).tmod 12) + 1)) + ((IntKind.i64.wrap p2).tmod 11))).tmod 12) + (IntKind.i64.wrap (12 * (l2.2.2.tmod 3)))))), (Value.int .i64 (IntKind.i64.wrap ((IntKind.i64.wrap ((IntKind.i64.wrap (p0.tmod 21)) + (IntKind.i64.wrap p3))) + l2.2.2))), (Value.int .i64 (-1))] (fun (r : Int × Int × Int × Int × Int) => (Value.agg #[(Value.int .i64 r.1), (Value.int .i64 r.2.1), (Value.int .i64 r.2.2.1), (Value.int .i64 r.2.2.2.1), (Value.int .i64 r.2.2.2.2)])) w5 fun r7 w6 =>
      nw 30 #[(Value.int .i64 r7.1), (Value.int .i64 r7.2.1), (Value.int .i64 r7.2.2.1), (Value.int .i64 r7.2.2.2.1), (Value.int .i64 r7.2.2.2.2)] w6 fun b8 w7 =>
      rn Try.prog (Builtin.append_ #[22, 22] 22 #[Sl.v l2.2.1, Sl.v (⟨some ⟨b8, 0, none⟩, 1, 1⟩ : Sl)]) Sl.v w7 fun r9 w8 =>
      next2 (r6, r9, IntKind.i64.wrap (l2.2.2 + 1)) w8
      )
      (
      callC Try.prog 9 #[(Sl.v l2.1), (Sl.v l2.2.1), (Value.int .i64 (IntKind.i64.wrap ((IntKind.i64.wrap (2 * (IntKind.i64.wrap (p0.tmod 21)))) + (IntKind.i64.wrap p3))))] (fun (r : Sl) => (Sl.v r)) w2 fun r10 w9 =>
      cnd (!decide ((r10.len : Int) = (IntKind.i64.wrap (p0.tmod 21))))
        (
        K false w9
        )
        (
        rn Try.prog (Instr.makeSlice 38 (Value.int .i64 (IntKind.i64.wrap (p0.tmod 21))) (Value.int .i64 (IntKind.i64.wrap (p0.tmod 21)))) (fun (r : Sl) => (Sl.v r)) w9 fun r12 w10 =>
        lp (fun (next13 : Int → World → Prop) l13 w11 =>
          cnd (decide (l13 < (IntKind.i64.wrap (p0.tmod 21))))
            (
            ix r10 l13 1 fun p15 =>
            ld (Value.int .i64) p15 w11 fun x16 =>
            jp (fun J17 => cnd (decide (x16 < 0))
              (
              J17 true
              )
              (
              ix r10 l13 1 fun p19 =>
              ld (Value.int .i64) p19 w11 fun x20 =>
              J17 (decide ((IntKind.i64.wrap (p0.tmod 21)) ≤ x20))
              ))
            fun c21 =>
            cnd (c21)
              (
              K false w11
              )
              (
              ix r10 l13 1 fun p23 =>
              ld (Value.int .i64) p23 w11 fun x24 =>
              ix r12 x24 1 fun p25 =>
              ld Value.bool p25 w11 fun x26 =>
              cnd (x26)
                (
                K false w11
                )
                (
                ix r10 l13 1 fun p28 =>
                ld (Value.int .i64) p28 w11 fun x29 =>
                ix r12 x29 1 fun p30 =>
                st p30 [(Value.bool true)] w11 fun w12 =>
                next13 (IntKind.i64.wrap (l13 + 1)) w12
                )
              )
            )
            (
            callC Try.prog 9 #[(Sl.v l2.1), (Sl.v l2.1), (Value.int .i64 (IntKind.i64.wrap (p0.tmod 21)))] (fun (r : Sl) => (Sl.v r)) w11 fun r32 w13 =>
            lp (fun (next33 : Int → World → Prop) l33 w14 =>
              cnd (decide (l33 < (r32.len : Int)))
                (
                ix r32 l33 1 fun p35 =>
                ld (Value.int .i64) p35 w14 fun x36 =>
                cnd (!decide (x36 = (-1)))
                  (
                  K false w14
                  )
                  (
                  next33 (IntKind.i64.wrap (l33 + 1)) w14
                  )
                )
                (
                K (r1 && (decide ((r32.len : Int) = (IntKind.i64.wrap (p0.tmod 21))))) w14
                )
            ) 0 w13
            )
        ) 0 w10
        )
      )
  ) (Sl.nil, Sl.nil, 0) w1
set_option maxRecDepth 100000 in
theorem D6 (p0 : Int) (p1 : Int) (p2 : Int) (p3 : Int) (w0 : World) (K : Bool → World → Prop) (h : F6 p0 p1 p2 p3 w0 K) : callC Try.prog 6 #[(Value.int .u8 p0), (Value.int .u8 p1), (Value.int .u8 p2), (Value.int .u16 p3)] (fun (r : Bool) => (Value.bool r)) w0 K := by
  unfold F6 at h
  refine calls_of_wpC Try.func6 rfl 131 rfl (by simp) ?_
  intro ρ hρ
  have e0 : ρ 0 = (Value.int .u8 p0) := hρ 0
  have e1 : ρ 1 = (Value.int .u8 p1) := hρ 1
  have e2 : ρ 2 = (Value.int .u8 p2) := hρ 2
  have e3 : ρ 3 = (Value.int .u16 p3) := hρ 3
  clear hρ
  refine wpC_seq ?_
  refine wpC_region ?_
  refine wpR_val (v := (Value.bool false)) (w' := w0) rfl rfl rfl (x_assign (v := (Value.bool false)) rfl rfl) ?_
  refine wpR_nil ?_
  refine wpC_seq ?_
  refine wpC_cut (fun ρ => ρ 0 = (Value.int .u8 p0) ∧ ρ 1 = (Value.int .u8 p1) ∧ ρ 2 = (Value.int .u8 p2) ∧ ρ 3 = (Value.int .u16 p3) ∧ True) ⟨e0, e1, e2, e3, trivial⟩ ?_
  rintro ρ ⟨e0, e1, e2, e3, -⟩
  refine wpC_region ?_
  refine wpR_enter rfl rfl rfl (x_call (vs := []) rfl rfl mapl_nil Try.func7 NN_7 NB_7) (Calls.mono h ?_)
  rintro _ w1 ⟨r1, rfl, h⟩
  refine ⟨_, rfl, ?_⟩
  refine wpR_val (v := (Value.bool r1)) (w' := w1) rfl rfl rfl (x_assign (v := (Value.bool r1)) rfl rfl) ?_
  refine wpR_nil ?_
  refine wpC_seq ?_
  refine wpC_cut (fun ρ => ρ 0 = (Value.int .u8 p0) ∧ ρ 1 = (Value.int .u8 p1) ∧ ρ 2 = (Value.int .u8 p2) ∧ ρ 3 = (Value.int .u16 p3) ∧ ρ 9 = (Value.bool r1) ∧ True) ⟨e0, e1, e2, e3, rfl, trivial⟩ ?_
  rintro ρ ⟨e0, e1, e2, e3, e9, -⟩
  refine wpC_region ?_
  refine wpR_val (v := (Value.int .u8 p0)) (w' := w1) rfl rfl rfl (x_move (v := (Value.int .u8 p0)) rfl e0) ?_
  refine wpR_val (v := (Value.int .u8 (p0.tmod 21))) (w' := w1) rfl rfl rfl (x_rem rfl rfl rfl (by decide)) ?_
  refine wpR_val (v := (Value.int .i64 (IntKind.i64.wrap (p0.tmod 21)))) (w' := w1) rfl rfl rfl (x_convI rfl rfl IK_3 IK_5) ?_
  refine wpR_val (v := (Value.int .i64 (IntKind.i64.wrap (p0.tmod 21)))) (w' := w1) rfl rfl rfl (x_assign (v := (Value.int .i64 (IntKind.i64.wrap (p0.tmod 21)))) rfl rfl) ?_
  refine wpR_nil ?_
  refine wpC_seq ?_
  refine wpC_cut (fun ρ => ρ 1 = (Value.int .u8 p1) ∧ ρ 2 = (Value.int .u8 p2) ∧ ρ 3 = (Value.int .u16 p3) ∧ ρ 9 = (Value.bool r1) ∧ ρ 10 = (Value.int .i64 (IntKind.i64.wrap (p0.tmod 21))) ∧ True) ⟨e1, e2, e3, e9, rfl, trivial⟩ ?_
  rintro ρ ⟨e1, e2, e3, e9, e10, -⟩
  refine wpC_region ?_
  refine wpR_val (v := (Value.int .u8 p1)) (w' := w1) rfl rfl rfl (x_move (v := (Value.int .u8 p1)) rfl e1) ?_
  refine wpR_val (v := (Value.int .i64 (IntKind.i64.wrap p1))) (w' := w1) rfl rfl rfl (x_convI rfl rfl IK_3 IK_5) ?_
  refine wpR_val (v := (Value.int .i64 ((IntKind.i64.wrap p1).tmod 12))) (w' := w1) rfl rfl rfl (x_rem rfl rfl rfl (by decide)) ?_
  refine wpR_val (v := (Value.int .i64 ((IntKind.i64.wrap p1).tmod 12))) (w' := w1) rfl rfl rfl (x_assign (v := (Value.int .i64 ((IntKind.i64.wrap p1).tmod 12))) rfl rfl) ?_
  refine wpR_nil ?_
  refine wpC_seq ?_
  refine wpC_cut (fun ρ => ρ 2 = (Value.int .u8 p2) ∧ ρ 3 = (Value.int .u16 p3) ∧ ρ 9 = (Value.bool r1) ∧ ρ 10 = (Value.int .i64 (IntKind.i64.wrap (p0.tmod 21))) ∧ ρ 11 = (Value.int .i64 ((IntKind.i64.wrap p1).tmod 12)) ∧ True) ⟨e2, e3, e9, e10, rfl, trivial⟩ ?_
  rintro ρ ⟨e2, e3, e9, e10, e11, -⟩
  refine wpC_region ?_
  refine wpR_val (v := (Value.int .i64 ((IntKind.i64.wrap p1).tmod 12))) (w' := w1) rfl rfl rfl (x_move (v := (Value.int .i64 ((IntKind.i64.wrap p1).tmod 12))) rfl e11) ?_
  refine wpR_val (v := (Value.int .i64 (IntKind.i64.wrap (((IntKind.i64.wrap p1).tmod 12) + 1)))) (w' := w1) rfl rfl rfl (x_add rfl rfl rfl) ?_
  refine wpR_val (v := (Value.int .u8 p2)) (w' := w1) rfl rfl rfl (x_move (v := (Value.int .u8 p2)) rfl e2) ?_
  refine wpR_val (v := (Value.int .i64 (IntKind.i64.wrap p2))) (w' := w1) rfl rfl rfl (x_convI rfl rfl IK_3 IK_5) ?_
  refine wpR_val (v := (Value.int .i64 ((IntKind.i64.wrap p2).tmod 11))) (w' := w1) rfl rfl rfl (x_rem rfl rfl rfl (by decide)) ?_
  refine wpR_val (v := (Value.int .i64 (IntKind.i64.wrap ((IntKind.i64.wrap (((IntKind.i64.wrap p1).tmod 12) + 1)) + ((IntKind.i64.wrap p2).tmod 11))))) (w' := w1) rfl rfl rfl (x_add rfl rfl rfl) ?_
  refine wpR_val (v := (Value.int .i64 ((IntKind.i64.wrap ((IntKind.i64.wrap (((IntKind.i64.wrap p1).tmod 12) + 1)) + ((IntKind.i64.wrap p2).tmod 11))).tmod 12))) (w' := w1) rfl rfl rfl (x_rem rfl rfl rfl (by decide)) ?_
  refine wpR_val (v := (Value.int .i64 ((IntKind.i64.wrap ((IntKind.i64.wrap (((IntKind.i64.wrap p1).tmod 12) + 1)) + ((IntKind.i64.wrap p2).tmod 11))).tmod 12))) (w' := w1) rfl rfl rfl (x_assign (v := (Value.int .i64 ((IntKind.i64.wrap ((IntKind.i64.wrap (((IntKind.i64.wrap p1).tmod 12) + 1)) + ((IntKind.i64.wrap p2).tmod 11))).tmod 12))) rfl rfl) ?_
  refine wpR_nil ?_
  refine wpC_seq ?_
  refine wpC_cut (fun ρ => ρ 3 = (Value.int .u16 p3) ∧ ρ 9 = (Value.bool r1) ∧ ρ 10 = (Value.int .i64 (IntKind.i64.wrap (p0.tmod 21))) ∧ ρ 11 = (Value.int .i64 ((IntKind.i64.wrap p1).tmod 12)) ∧ ρ 12 = (Value.int .i64 ((IntKind.i64.wrap ((IntKind.i64.wrap (((IntKind.i64.wrap p1).tmod 12) + 1)) + ((IntKind.i64.wrap p2).tmod 11))).tmod 12)) ∧ True) ⟨e3, e9, e10, e11, rfl, trivial⟩ ?_
  rintro ρ ⟨e3, e9, e10, e11, e12, -⟩
  refine wpC_region ?_
  refine wpR_val (v := (Sl.v Sl.nil)) (w' := w1) rfl rfl rfl (x_assign (v := (Sl.v Sl.nil)) rfl rfl) ?_
  refine wpR_nil ?_
  refine wpC_seq ?_
  refine wpC_cut (fun ρ => ρ 3 = (Value.int .u16 p3) ∧ ρ 9 = (Value.bool r1) ∧ ρ 10 = (Value.int .i64 (IntKind.i64.wrap (p0.tmod 21))) ∧ ρ 11 = (Value.int .i64 ((IntKind.i64.wrap p1).tmod 12)) ∧ ρ 12 = (Value.int .i64 ((IntKind.i64.wrap ((IntKind.i64.wrap (((IntKind.i64.wrap p1).tmod 12) + 1)) + ((IntKind.i64.wrap p2).tmod 11))).tmod 12)) ∧ ρ 13 = (Sl.v Sl.nil) ∧ True) ⟨e3, e9, e10, e11, e12, rfl, trivial⟩ ?_
  rintro ρ ⟨e3, e9, e10, e11, e12, e13, -⟩
  refine wpC_region ?_
  refine wpR_val (v := (Sl.v Sl.nil)) (w' := w1) rfl rfl rfl (x_assign (v := (Sl.v Sl.nil)) rfl rfl) ?_
  refine wpR_nil ?_
  refine wpC_seq ?_
  refine wpC_seq ?_
  refine wpC_cut (fun ρ => ρ 3 = (Value.int .u16 p3) ∧ ρ 9 = (Value.bool r1) ∧ ρ 10 = (Value.int .i64 (IntKind.i64.wrap (p0.tmod 21))) ∧ ρ 11 = (Value.int .i64 ((IntKind.i64.wrap p1).tmod 12)) ∧ ρ 12 = (Value.int .i64 ((IntKind.i64.wrap ((IntKind.i64.wrap (((IntKind.i64.wrap p1).tmod 12) + 1)) + ((IntKind.i64.wrap p2).tmod 11))).tmod 12)) ∧ ρ 13 = (Sl.v Sl.nil) ∧ ρ 14 = (Sl.v Sl.nil) ∧ True) ⟨e3, e9, e10, e11, e12, e13, rfl, trivial⟩ ?_
  rintro ρ ⟨e3, e9, e10, e11, e12, e13, e14, -⟩
  refine wpC_region ?_
  refine wpR_val (v := (Value.int .i64 0)) (w' := w1) rfl rfl rfl (x_assign (v := (Value.int .i64 0)) rfl rfl) ?_
  refine wpR_nil ?_
  refine wpC_block ?_
  obtain ⟨I2, μ2, hI2, hr2⟩ := h
  refine wpC_loop (fun (x : Sl × Sl × Int) ρ => ρ 13 = (Sl.v x.1) ∧ ρ 14 = (Sl.v x.2.1) ∧ ρ 15 = (Value.int .i64 x.2.2) ∧ ρ 3 = (Value.int .u16 p3) ∧ ρ 9 = (Value.bool r1) ∧ ρ 10 = (Value.int .i64 (IntKind.i64.wrap (p0.tmod 21))) ∧ ρ 11 = (Value.int .i64 ((IntKind.i64.wrap p1).tmod 12)) ∧ ρ 12 = (Value.int .i64 ((IntKind.i64.wrap ((IntKind.i64.wrap (((IntKind.i64.wrap p1).tmod 12) + 1)) + ((IntKind.i64.wrap p2).tmod 11))).tmod 12)) ∧ True) I2 μ2 (Sl.nil, Sl.nil, 0) ⟨e13, e14, rfl, e3, e9, e10, e11, e12, trivial⟩ hI2 ?_
  rintro l2 ρ w2 ⟨e13, e14, e15, e3, e9, e10, e11, e12, -⟩ h
  replace h := hr2 l2 w2 h
  clear hr2 hI2
  refine wpC_seq ?_
  refine wpC_seq ?_
  refine wpC_region ?_
  refine wpR_val (v := (Value.int .i64 l2.2.2)) (w' := w2) rfl rfl rfl (x_move (v := (Value.int .i64 l2.2.2)) rfl e15) ?_
  refine wpR_val (v := (Value.int .i64 (IntKind.i64.wrap (p0.tmod 21)))) (w' := w2) rfl rfl rfl (x_move (v := (Value.int .i64 (IntKind.i64.wrap (p0.tmod 21)))) rfl e10) ?_
  refine wpR_val (v := (Value.bool (decide (l2.2.2 < (IntKind.i64.wrap (p0.tmod 21)))))) (w' := w2) rfl rfl rfl (x_lss rfl rfl rfl) ?_
  refine wpR_nil ?_
  refine wpC_cond (b := decide (l2.2.2 < (IntKind.i64.wrap (p0.tmod 21)))) rfl (fun hc3 => ?_) (fun hc3 => ?_)
  · replace h := h.1 hc3
    refine wpC_skip ?_
    refine wpC_seq ?_
    refine wpC_block ?_
    refine wpC_seq ?_
    refine wpC_cut (fun ρ => ρ 3 = (Value.int .u16 p3) ∧ ρ 9 = (Value.bool r1) ∧ ρ 10 = (Value.int .i64 (IntKind.i64.wrap (p0.tmod 21))) ∧ ρ 11 = (Value.int .i64 ((IntKind.i64.wrap p1).tmod 12)) ∧ ρ 12 = (Value.int .i64 ((IntKind.i64.wrap ((IntKind.i64.wrap (((IntKind.i64.wrap p1).tmod 12) + 1)) + ((IntKind.i64.wrap p2).tmod 11))).tmod 12)) ∧ ρ 13 = (Sl.v l2.1) ∧ ρ 14 = (Sl.v l2.2.1) ∧ ρ 15 = (Value.int .i64 l2.2.2) ∧ True) ⟨e3, e9, e10, e11, e12, e13, e14, e15, trivial⟩ ?_
    rintro ρ ⟨e3, e9, e10, e11, e12, e13, e14, e15, -⟩
    refine wpC_region ?_
    refine wpR_val (v := (Sl.v l2.1)) (w' := w2) rfl rfl rfl (x_move (v := (Sl.v l2.1)) rfl e13) ?_
    refine wpR_val (v := (Value.int .i64 ((IntKind.i64.wrap p1).tmod 12))) (w' := w2) rfl rfl rfl (x_move (v := (Value.int .i64 ((IntKind.i64.wrap p1).tmod 12))) rfl e11) ?_
    refine wpR_val (v := (Value.int .i64 l2.2.2)) (w' := w2) rfl rfl rfl (x_move (v := (Value.int .i64 l2.2.2)) rfl e15) ?_
    refine wpR_val (v := (Value.int .i64 (IntKind.i64.wrap (12 * l2.2.2)))) (w' := w2) rfl rfl rfl (x_mul rfl rfl rfl) ?_
    refine wpR_val (v := (Value.int .i64 (IntKind.i64.wrap (((IntKind.i64.wrap p1).tmod 12) + (IntKind.i64.wrap (12 * l2.2.2)))))) (w' := w2) rfl rfl rfl (x_add rfl rfl rfl) ?_
    refine wpR_val (v := (Value.int .i64 l2.2.2)) (w' := w2) rfl rfl rfl (x_move (v := (Value.int .i64 l2.2.2)) rfl e15) ?_
    refine wpR_enter rfl rfl rfl (x_call (vs := [(Value.int .i64 (IntKind.i64.wrap (((IntKind.i64.wrap p1).tmod 12) + (IntKind.i64.wrap (12 * l2.2.2))))), (Value.int .i64 l2.2.2), (Value.int .i64 (-1))]) rfl rfl (mapl_cons rfl (mapl_cons rfl (mapl_cons rfl mapl_nil))) Try.func17 NN_17 NB_17) (Calls.mono h ?_)
    rintro _ w3 ⟨r4, rfl, h⟩
    refine ⟨_, rfl, ?_⟩
    obtain ⟨b5, hb5⟩ : ∃ u, u = w3.heap.size := ⟨_, rfl⟩
    obtain ⟨w4, hw5⟩ : ∃ u, u = w3.alloc (.cells #[(Value.int .i64 r4.1), (Value.int .i64 r4.2.1), (Value.int .i64 r4.2.2.1), (Value.int .i64 r4.2.2.2.1), (Value.int .i64 r4.2.2.2.2)] 30) := ⟨_, rfl⟩
    replace h := h b5 w4 hb5 hw5
    refine wpR_val (v := (Sl.v (⟨some ⟨b5, 0, none⟩, 1, 1⟩ : Sl))) (w' := w4) rfl rfl rfl ((x_buildSlice (qs := [(0, (Value.agg #[(Value.int .i64 r4.1), (Value.int .i64 r4.2.1), (Value.int .i64 r4.2.2.1), (Value.int .i64 r4.2.2.2.1), (Value.int .i64 r4.2.2.2.2)]))]) rfl (by rfl) (BS_22_1_0 r4.1 r4.2.1 r4.2.2.1 r4.2.2.2.1 r4.2.2.2.2)).trans (by rw [← hb5, ← hw5])) ?_
    obtain ⟨r6, w5, q6, h⟩ := h
    refine wpR_val (v := (Sl.v r6)) (w' := w5) rfl rfl rfl (x_append (s := l2.1) (u := (⟨some ⟨b5, 0, none⟩, 1, 1⟩ : Sl)) rfl rfl rfl rfl q6) ?_
    refine wpR_val (v := (Sl.v r6)) (w' := w5) rfl rfl rfl (x_assign (v := (Sl.v r6)) rfl rfl) ?_
    refine wpR_nil ?_
    refine wpC_cut (fun ρ => ρ 3 = (Value.int .u16 p3) ∧ ρ 9 = (Value.bool r1) ∧ ρ 10 = (Value.int .i64 (IntKind.i64.wrap (p0.tmod 21))) ∧ ρ 11 = (Value.int .i64 ((IntKind.i64.wrap p1).tmod 12)) ∧ ρ 12 = (Value.int .i64 ((IntKind.i64.wrap ((IntKind.i64.wrap (((IntKind.i64.wrap p1).tmod 12) + 1)) + ((IntKind.i64.wrap p2).tmod 11))).tmod 12)) ∧ ρ 13 = (Sl.v r6) ∧ ρ 14 = (Sl.v l2.2.1) ∧ ρ 15 = (Value.int .i64 l2.2.2) ∧ True) ⟨e3, e9, e10, e11, e12, rfl, e14, e15, trivial⟩ ?_
    rintro ρ ⟨e3, e9, e10, e11, e12, e13, e14, e15, -⟩
    refine wpC_region ?_
    refine wpR_val (v := (Sl.v l2.2.1)) (w' := w5) rfl rfl rfl (x_move (v := (Sl.v l2.2.1)) rfl e14) ?_
    refine wpR_val (v := (Value.int .i64 ((IntKind.i64.wrap ((IntKind.i64.wrap (((IntKind.i64.wrap p1).tmod 12) + 1)) + ((IntKind.i64.wrap p2).tmod 11))).tmod 12))) (w' := w5) rfl rfl rfl (x_move (v := (Value.int .i64 ((IntKind.i64.wrap ((IntKind.i64.wrap (((IntKind.i64.wrap p1).tmod 12) + 1)) + ((IntKind.i64.wrap p2).tmod 11))).tmod 12))) rfl e12) ?_
    refine wpR_val (v := (Value.int .i64 l2.2.2)) (w' := w5) rfl rfl rfl (x_move (v := (Value.int .i64 l2.2.2)) rfl e15) ?_
    refine wpR_val (v := (Value.int .i64 (l2.2.2.tmod 3))) (w' := w5) rfl rfl rfl (x_rem rfl rfl rfl (by decide)) ?_
    refine wpR_val (v := (Value.int .i64 (IntKind.i64.wrap (12 * (l2.2.2.tmod 3))))) (w' := w5) rfl rfl rfl (x_mul rfl rfl rfl) ?_
    refine wpR_val (v := (Value.int .i64 (IntKind.i64.wrap (((IntKind.i64.wrap ((IntKind.i64.wrap (((IntKind.i64.wrap p1).tmod 12) + 1)) + ((IntKind.i64.wrap p2).tmod 11))).tmod 12) + (IntKind.i64.wrap (12 * (l2.2.2.tmod 3))))))) (w' := w5) rfl rfl rfl (x_add rfl rfl rfl) ?_
    refine wpR_val (v := (Value.int .i64 (IntKind.i64.wrap (p0.tmod 21)))) (w' := w5) rfl rfl rfl (x_move (v := (Value.int .i64 (IntKind.i64.wrap (p0.tmod 21)))) rfl e10) ?_
    refine wpR_val (v := (Value.int .u16 p3)) (w' := w5) rfl rfl rfl (x_move (v := (Value.int .u16 p3)) rfl e3) ?_
    refine wpR_val (v := (Value.int .i64 (IntKind.i64.wrap p3))) (w' := w5) rfl rfl rfl (x_convI rfl rfl IK_3 IK_35) ?_
    refine wpR_val (v := (Value.int .i64 (IntKind.i64.wrap ((IntKind.i64.wrap (p0.tmod 21)) + (IntKind.i64.wrap p3))))) (w' := w5) rfl rfl rfl (x_add rfl rfl rfl) ?_
    refine wpR_val (v := (Value.int .i64 l2.2.2)) (w' := w5) rfl rfl rfl (x_move (v := (Value.int .i64 l2.2.2)) rfl e15) ?_
    refine wpR_val (v := (Value.int .i64 (IntKind.i64.wrap ((IntKind.i64.wrap ((IntKind.i64.wrap (p0.tmod 21)) + (IntKind.i64.wrap p3))) + l2.2.2)))) (w' := w5) rfl rfl rfl (x_add rfl rfl rfl) ?_
    refine wpR_enter rfl rfl rfl (x_call (vs := [(Value.int .i64 (IntKind.i64.wrap (((IntKind.i64.wrap ((IntKind.i64.wrap (((IntKind.i64.wrap p1).tmod 12) + 1)) + ((IntKind.i64.wrap p2).tmod 11))).tmod 12) + (IntKind.i64.wrap (12 * (l2.2.2.tmod 3)))))), (Value.int .i64 (IntKind.i64.wrap ((IntKind.i64.wrap ((IntKind.i64.wrap (p0.tmod 21)) + (IntKind.i64.wrap p3))) + l2.2.2))), (Value.int .i64 (-1))]) rfl rfl (mapl_cons rfl (mapl_cons rfl (mapl_cons rfl mapl_nil))) Try.func17 NN_17 NB_17) (Calls.mono h ?_)
    rintro _ w6 ⟨r7, rfl, h⟩
    refine ⟨_, rfl, ?_⟩
    obtain ⟨b8, hb8⟩ : ∃ u, u = w6.heap.size := ⟨_, rfl⟩
    obtain ⟨w7, hw8⟩ : ∃ u, u = w6.alloc (.cells #[(Value.int .i64 r7.1), (Value.int .i64 r7.2.1), (Value.int .i64 r7.2.2.1), (Value.int .i64 r7.2.2.2.1), (Value.int .i64 r7.2.2.2.2)] 30) := ⟨_, rfl⟩
    replace h := h b8 w7 hb8 hw8
    refine wpR_val (v := (Sl.v (⟨some ⟨b8, 0, none⟩, 1, 1⟩ : Sl))) (w' := w7) rfl rfl rfl ((x_buildSlice (qs := [(0, (Value.agg #[(Value.int .i64 r7.1), (Value.int .i64 r7.2.1), (Value.int .i64 r7.2.2.1), (Value.int .i64 r7.2.2.2.1), (Value.int .i64 r7.2.2.2.2)]))]) rfl (by rfl) (BS_22_1_0 r7.1 r7.2.1 r7.2.2.1 r7.2.2.2.1 r7.2.2.2.2)).trans (by rw [← hb8, ← hw8])) ?_
    obtain ⟨r9, w8, q9, h⟩ := h
    refine wpR_val (v := (Sl.v r9)) (w' := w8) rfl rfl rfl (x_append (s := l2.2.1) (u := (⟨some ⟨b8, 0, none⟩, 1, 1⟩ : Sl)) rfl rfl rfl rfl q9) ?_
    refine wpR_val (v := (Sl.v r9)) (w' := w8) rfl rfl rfl (x_assign (v := (Sl.v r9)) rfl rfl) ?_
    refine wpR_nil ?_
    refine wpC_cut (fun ρ => ρ 3 = (Value.int .u16 p3) ∧ ρ 9 = (Value.bool r1) ∧ ρ 10 = (Value.int .i64 (IntKind.i64.wrap (p0.tmod 21))) ∧ ρ 11 = (Value.int .i64 ((IntKind.i64.wrap p1).tmod 12)) ∧ ρ 12 = (Value.int .i64 ((IntKind.i64.wrap ((IntKind.i64.wrap (((IntKind.i64.wrap p1).tmod 12) + 1)) + ((IntKind.i64.wrap p2).tmod 11))).tmod 12)) ∧ ρ 13 = (Sl.v r6) ∧ ρ 14 = (Sl.v r9) ∧ ρ 15 = (Value.int .i64 l2.2.2) ∧ True) ⟨e3, e9, e10, e11, e12, e13, rfl, e15, trivial⟩ ?_
    rintro ρ ⟨e3, e9, e10, e11, e12, e13, e14, e15, -⟩
    refine wpC_region ?_
    refine wpR_val (v := (Value.int .i64 l2.2.2)) (w' := w8) rfl rfl rfl (x_move (v := (Value.int .i64 l2.2.2)) rfl e15) ?_
    refine wpR_val (v := (Value.int .i64 (IntKind.i64.wrap (l2.2.2 + 1)))) (w' := w8) rfl rfl rfl (x_add rfl rfl rfl) ?_
    refine wpR_val (v := (Value.int .i64 (IntKind.i64.wrap (l2.2.2 + 1)))) (w' := w8) rfl rfl rfl (x_assign (v := (Value.int .i64 (IntKind.i64.wrap (l2.2.2 + 1)))) rfl rfl) ?_
    refine wpR_nil ?_
    exact ⟨(r6, r9, IntKind.i64.wrap (l2.2.2 + 1)), ⟨e13, e14, rfl, e3, e9, e10, e11, e12, trivial⟩, h⟩
  · replace h := h.2 hc3
    refine wpC_exit ?_
    refine wpC_seq ?_
    refine wpC_cut (fun ρ => ρ 3 = (Value.int .u16 p3) ∧ ρ 9 = (Value.bool r1) ∧ ρ 10 = (Value.int .i64 (IntKind.i64.wrap (p0.tmod 21))) ∧ ρ 13 = (Sl.v l2.1) ∧ ρ 14 = (Sl.v l2.2.1) ∧ True) ⟨e3, e9, e10, e13, e14, trivial⟩ ?_
    rintro ρ ⟨e3, e9, e10, e13, e14, -⟩
    refine wpC_region ?_
    refine wpR_val (v := (Sl.v l2.1)) (w' := w2) rfl rfl rfl (x_move (v := (Sl.v l2.1)) rfl e13) ?_
    refine wpR_val (v := (Sl.v l2.2.1)) (w' := w2) rfl rfl rfl (x_move (v := (Sl.v l2.2.1)) rfl e14) ?_
    refine wpR_val (v := (Value.int .i64 (IntKind.i64.wrap (p0.tmod 21)))) (w' := w2) rfl rfl rfl (x_move (v := (Value.int .i64 (IntKind.i64.wrap (p0.tmod 21)))) rfl e10) ?_
    refine wpR_val (v := (Value.int .i64 (IntKind.i64.wrap (2 * (IntKind.i64.wrap (p0.tmod 21)))))) (w' := w2) rfl rfl rfl (x_mul rfl rfl rfl) ?_
    refine wpR_val (v := (Value.int .u16 p3)) (w' := w2) rfl rfl rfl (x_move (v := (Value.int .u16 p3)) rfl e3) ?_
    refine wpR_val (v := (Value.int .i64 (IntKind.i64.wrap p3))) (w' := w2) rfl rfl rfl (x_convI rfl rfl IK_3 IK_35) ?_
    refine wpR_val (v := (Value.int .i64 (IntKind.i64.wrap ((IntKind.i64.wrap (2 * (IntKind.i64.wrap (p0.tmod 21)))) + (IntKind.i64.wrap p3))))) (w' := w2) rfl rfl rfl (x_add rfl rfl rfl) ?_
    refine wpR_enter rfl rfl rfl (x_call (vs := [(Sl.v l2.1), (Sl.v l2.2.1), (Value.int .i64 (IntKind.i64.wrap ((IntKind.i64.wrap (2 * (IntKind.i64.wrap (p0.tmod 21)))) + (IntKind.i64.wrap p3))))]) rfl rfl (mapl_cons rfl (mapl_cons rfl (mapl_cons rfl mapl_nil))) Try.func9 NN_9 NB_9) (Calls.mono h ?_)
    rintro _ w9 ⟨r10, rfl, h⟩
    refine ⟨_, rfl, ?_⟩
    refine wpR_val (v := (Sl.v r10)) (w' := w9) rfl rfl rfl (x_assign (v := (Sl.v r10)) rfl rfl) ?_
    refine wpR_nil ?_
    refine wpC_seq ?_
    refine wpC_seq ?_
    refine wpC_cut (fun ρ => ρ 9 = (Value.bool r1) ∧ ρ 10 = (Value.int .i64 (IntKind.i64.wrap (p0.tmod 21))) ∧ ρ 13 = (Sl.v l2.1) ∧ ρ 16 = (Sl.v r10) ∧ True) ⟨e9, e10, e13, rfl, trivial⟩ ?_
    rintro ρ ⟨e9, e10, e13, e16, -⟩
    refine wpC_region ?_
    refine wpR_val (v := (Sl.v r10)) (w' := w9) rfl rfl rfl (x_move (v := (Sl.v r10)) rfl e16) ?_
    refine wpR_val (v := (Value.int .i64 (r10.len : Int))) (w' := w9) rfl rfl rfl (x_lenS (s := r10) rfl rfl isSliceT_25) ?_
    refine wpR_val (v := (Value.int .i64 (IntKind.i64.wrap (p0.tmod 21)))) (w' := w9) rfl rfl rfl (x_move (v := (Value.int .i64 (IntKind.i64.wrap (p0.tmod 21)))) rfl e10) ?_
    refine wpR_val (v := (Value.bool (!decide ((r10.len : Int) = (IntKind.i64.wrap (p0.tmod 21)))))) (w' := w9) rfl rfl rfl (x_neq rfl rfl rfl) ?_
    refine wpR_nil ?_
    refine wpC_cond (b := !decide ((r10.len : Int) = (IntKind.i64.wrap (p0.tmod 21)))) rfl (fun hc11 => ?_) (fun hc11 => ?_)
    · replace h := h.1 hc11
      refine wpC_seq ?_
      refine wpC_cut (fun ρ => True) trivial ?_
      rintro ρ -
      refine wpC_region ?_
      refine wpR_val (v := (Value.bool false)) (w' := w9) rfl rfl rfl (x_assign (v := (Value.bool false)) rfl rfl) ?_
      refine wpR_nil ?_
      refine wpC_ret ?_
      exact ⟨.inl rfl, fun a ha => ⟨_, results_rep1 rfl ha rfl, false, rfl, h⟩⟩
    · replace h := h.2 hc11
      refine wpC_skip ?_
      refine wpC_seq ?_
      refine wpC_cut (fun ρ => ρ 9 = (Value.bool r1) ∧ ρ 10 = (Value.int .i64 (IntKind.i64.wrap (p0.tmod 21))) ∧ ρ 13 = (Sl.v l2.1) ∧ ρ 16 = (Sl.v r10) ∧ True) ⟨e9, e10, e13, e16, trivial⟩ ?_
      rintro ρ ⟨e9, e10, e13, e16, -⟩
      refine wpC_region ?_
      refine wpR_val (v := (Value.int .i64 (IntKind.i64.wrap (p0.tmod 21)))) (w' := w9) rfl rfl rfl (x_move (v := (Value.int .i64 (IntKind.i64.wrap (p0.tmod 21)))) rfl e10) ?_
      obtain ⟨r12, w10, q12, h⟩ := h
      refine wpR_val (v := (Sl.v r12)) (w' := w10) rfl rfl rfl (x_makeSlice rfl rfl rfl q12) ?_
      refine wpR_val (v := (Sl.v r12)) (w' := w10) rfl rfl rfl (x_assign (v := (Sl.v r12)) rfl rfl) ?_
      refine wpR_nil ?_
      refine wpC_seq ?_
      refine wpC_seq ?_
      refine wpC_cut (fun ρ => ρ 9 = (Value.bool r1) ∧ ρ 10 = (Value.int .i64 (IntKind.i64.wrap (p0.tmod 21))) ∧ ρ 13 = (Sl.v l2.1) ∧ ρ 16 = (Sl.v r10) ∧ ρ 17 = (Sl.v r12) ∧ True) ⟨e9, e10, e13, e16, rfl, trivial⟩ ?_
      rintro ρ ⟨e9, e10, e13, e16, e17, -⟩
      refine wpC_region ?_
      refine wpR_val (v := (Value.int .i64 0)) (w' := w10) rfl rfl rfl (x_assign (v := (Value.int .i64 0)) rfl rfl) ?_
      refine wpR_nil ?_
      refine wpC_block ?_
      obtain ⟨I13, μ13, hI13, hr13⟩ := h
      refine wpC_loop (fun (x : Int) ρ => ρ 18 = (Value.int .i64 x) ∧ ρ 9 = (Value.bool r1) ∧ ρ 10 = (Value.int .i64 (IntKind.i64.wrap (p0.tmod 21))) ∧ ρ 13 = (Sl.v l2.1) ∧ ρ 16 = (Sl.v r10) ∧ ρ 17 = (Sl.v r12) ∧ True) I13 μ13 0 ⟨rfl, e9, e10, e13, e16, e17, trivial⟩ hI13 ?_
      rintro l13 ρ w11 ⟨e18, e9, e10, e13, e16, e17, -⟩ h
      replace h := hr13 l13 w11 h
      clear hr13 hI13
      refine wpC_seq ?_
      refine wpC_seq ?_
      refine wpC_region ?_
      refine wpR_val (v := (Value.int .i64 l13)) (w' := w11) rfl rfl rfl (x_move (v := (Value.int .i64 l13)) rfl e18) ?_
      refine wpR_val (v := (Value.int .i64 (IntKind.i64.wrap (p0.tmod 21)))) (w' := w11) rfl rfl rfl (x_move (v := (Value.int .i64 (IntKind.i64.wrap (p0.tmod 21)))) rfl e10) ?_
      refine wpR_val (v := (Value.bool (decide (l13 < (IntKind.i64.wrap (p0.tmod 21)))))) (w' := w11) rfl rfl rfl (x_lss rfl rfl rfl) ?_
      refine wpR_nil ?_
      refine wpC_cond (b := decide (l13 < (IntKind.i64.wrap (p0.tmod 21)))) rfl (fun hc14 => ?_) (fun hc14 => ?_)
      · replace h := h.1 hc14
        refine wpC_skip ?_
        refine wpC_seq ?_
        refine wpC_block ?_
        refine wpC_seq ?_
        refine wpC_seq ?_
        refine wpC_cut (fun ρ => ρ 9 = (Value.bool r1) ∧ ρ 10 = (Value.int .i64 (IntKind.i64.wrap (p0.tmod 21))) ∧ ρ 13 = (Sl.v l2.1) ∧ ρ 16 = (Sl.v r10) ∧ ρ 17 = (Sl.v r12) ∧ ρ 18 = (Value.int .i64 l13) ∧ True) ⟨e9, e10, e13, e16, e17, e18, trivial⟩ ?_
        rintro ρ ⟨e9, e10, e13, e16, e17, e18, -⟩
        refine wpC_region ?_
        refine wpR_val (v := (Sl.v r10)) (w' := w11) rfl rfl rfl (x_move (v := (Sl.v r10)) rfl e16) ?_
        refine wpR_val (v := (Value.int .i64 l13)) (w' := w11) rfl rfl rfl (x_move (v := (Value.int .i64 l13)) rfl e18) ?_
        obtain ⟨q15, z15, r15, h⟩ := h
        generalize hp15 : z15.add ((l13 : Int).toNat * 1) = p15 at h
        refine wpR_val (v := (Value.pointer (some p15))) (w' := w11) rfl rfl rfl ((x_indexAddr (s := r10) rfl rfl rfl ES_25 q15 r15).trans (by rw [hp15])) ?_
        obtain ⟨x16, q16, h⟩ := h
        refine wpR_val (v := (Value.int .i64 x16)) (w' := w11) rfl rfl rfl (x_load1 rfl rfl SH_3 q16) ?_
        refine wpR_val (v := (Value.bool (decide (x16 < 0)))) (w' := w11) rfl rfl rfl (x_lss rfl rfl rfl) ?_
        refine wpR_val (v := (Value.bool (decide (x16 < 0)))) (w' := w11) rfl rfl rfl (x_move (v := (Value.bool (decide (x16 < 0)))) rfl rfl) ?_
        obtain ⟨J17, h, hk⟩ := h
        refine wpR_joinJ 7 (fun x ρ => ρ 95 = Value.bool x ∧ ρ 9 = (Value.bool r1) ∧ ρ 10 = (Value.int .i64 (IntKind.i64.wrap (p0.tmod 21))) ∧ ρ 13 = (Sl.v l2.1) ∧ ρ 16 = (Sl.v r10) ∧ ρ 17 = (Sl.v r12) ∧ ρ 18 = (Value.int .i64 l13) ∧ True) (fun x w => J17 x ∧ w11 = w) ?_ ?_
        · clear hk
          rcases Bool.eq_false_or_eq_true (decide (x16 < 0)) with hc18 | hc18
          · replace h := h.1 hc18
            refine wpR_pass (wantN rfl rfl rfl hc18) rfl rfl ?_
            refine wpR_pass (wantN rfl rfl rfl hc18) rfl rfl ?_
            refine wpR_pass (wantN rfl rfl rfl hc18) rfl rfl ?_
            refine wpR_pass (wantN rfl rfl rfl hc18) rfl rfl ?_
            refine wpR_pass (wantN rfl rfl rfl hc18) rfl rfl ?_
            refine wpR_pass (wantN rfl rfl rfl hc18) rfl rfl ?_
            refine wpR_val (v := (Value.bool true)) (w' := w11) rfl rfl rfl (x_pickT (v := (Value.bool true)) rfl rfl hc18 rfl) ?_
            refine wpR_nil ?_
            exact ⟨true, ⟨rfl, e9, e10, e13, e16, e17, e18, trivial⟩, h, rfl⟩
          · replace h := h.2 hc18
            refine wpR_val (v := (Sl.v r10)) (w' := w11) (wantG rfl rfl rfl hc18) rfl rfl (x_move (v := (Sl.v r10)) rfl e16) ?_
            refine wpR_val (v := (Value.int .i64 l13)) (w' := w11) (wantG rfl rfl rfl hc18) rfl rfl (x_move (v := (Value.int .i64 l13)) rfl e18) ?_
            obtain ⟨q19, z19, r19, h⟩ := h
            generalize hp19 : z19.add ((l13 : Int).toNat * 1) = p19 at h
            refine wpR_val (v := (Value.pointer (some p19))) (w' := w11) (wantG rfl rfl rfl hc18) rfl rfl ((x_indexAddr (s := r10) rfl rfl rfl ES_25 q19 r19).trans (by rw [hp19])) ?_
            obtain ⟨x20, q20, h⟩ := h
            refine wpR_val (v := (Value.int .i64 x20)) (w' := w11) (wantG rfl rfl rfl hc18) rfl rfl (x_load1 rfl rfl SH_3 q20) ?_
            refine wpR_val (v := (Value.int .i64 (IntKind.i64.wrap (p0.tmod 21)))) (w' := w11) (wantG rfl rfl rfl hc18) rfl rfl (x_move (v := (Value.int .i64 (IntKind.i64.wrap (p0.tmod 21)))) rfl e10) ?_
            refine wpR_val (v := (Value.bool (decide ((IntKind.i64.wrap (p0.tmod 21)) ≤ x20)))) (w' := w11) (wantG rfl rfl rfl hc18) rfl rfl (x_geq rfl rfl rfl) ?_
            refine wpR_val (v := (Value.bool (decide ((IntKind.i64.wrap (p0.tmod 21)) ≤ x20)))) (w' := w11) rfl rfl rfl (x_pickF (v := (Value.bool (decide ((IntKind.i64.wrap (p0.tmod 21)) ≤ x20)))) rfl rfl hc18 rfl) ?_
            refine wpR_nil ?_
            exact ⟨decide ((IntKind.i64.wrap (p0.tmod 21)) ≤ x20), ⟨rfl, e9, e10, e13, e16, e17, e18, trivial⟩, h, rfl⟩
        clear h
        rintro c21 ρ wj ⟨e95, e9, e10, e13, e16, e17, e18, -⟩ ⟨h, rfl⟩
        replace h := hk c21 h
        clear hk
        refine wpR_nil ?_
        refine wpC_cond (b := c21) e95 (fun hc22 => ?_) (fun hc22 => ?_)
        · replace h := h.1 hc22
          refine wpC_seq ?_
          refine wpC_region ?_
          refine wpR_val (v := (Value.bool false)) (w' := w11) rfl rfl rfl (x_assign (v := (Value.bool false)) rfl rfl) ?_
          refine wpR_nil ?_
          refine wpC_ret ?_
          exact ⟨.inl rfl, fun a ha => ⟨_, results_rep1 rfl ha rfl, false, rfl, h⟩⟩
        · replace h := h.2 hc22
          refine wpC_skip ?_
          refine wpC_seq ?_
          refine wpC_seq ?_
          refine wpC_region ?_
          refine wpR_val (v := (Sl.v r12)) (w' := w11) rfl rfl rfl (x_move (v := (Sl.v r12)) rfl e17) ?_
          refine wpR_val (v := (Sl.v r10)) (w' := w11) rfl rfl rfl (x_move (v := (Sl.v r10)) rfl e16) ?_
          refine wpR_val (v := (Value.int .i64 l13)) (w' := w11) rfl rfl rfl (x_move (v := (Value.int .i64 l13)) rfl e18) ?_
          obtain ⟨q23, z23, r23, h⟩ := h
          generalize hp23 : z23.add ((l13 : Int).toNat * 1) = p23 at h
          refine wpR_val (v := (Value.pointer (some p23))) (w' := w11) rfl rfl rfl ((x_indexAddr (s := r10) rfl rfl rfl ES_25 q23 r23).trans (by rw [hp23])) ?_
          obtain ⟨x24, q24, h⟩ := h
          refine wpR_val (v := (Value.int .i64 x24)) (w' := w11) rfl rfl rfl (x_load1 rfl rfl SH_3 q24) ?_
          obtain ⟨q25, z25, r25, h⟩ := h
          generalize hp25 : z25.add ((x24 : Int).toNat * 1) = p25 at h
          refine wpR_val (v := (Value.pointer (some p25))) (w' := w11) rfl rfl rfl ((x_indexAddr (s := r12) rfl rfl rfl ES_38 q25 r25).trans (by rw [hp25])) ?_
          obtain ⟨x26, q26, h⟩ := h
          refine wpR_val (v := (Value.bool x26)) (w' := w11) rfl rfl rfl (x_load1 rfl rfl SH_4 q26) ?_
          refine wpR_nil ?_
          refine wpC_cond (b := x26) rfl (fun hc27 => ?_) (fun hc27 => ?_)
          · replace h := h.1 hc27
            refine wpC_seq ?_
            refine wpC_cut (fun ρ => True) trivial ?_
            rintro ρ -
            refine wpC_region ?_
            refine wpR_val (v := (Value.bool false)) (w' := w11) rfl rfl rfl (x_assign (v := (Value.bool false)) rfl rfl) ?_
            refine wpR_nil ?_
            refine wpC_ret ?_
            exact ⟨.inl rfl, fun a ha => ⟨_, results_rep1 rfl ha rfl, false, rfl, h⟩⟩
          · replace h := h.2 hc27
            refine wpC_skip ?_
            refine wpC_cut (fun ρ => ρ 9 = (Value.bool r1) ∧ ρ 10 = (Value.int .i64 (IntKind.i64.wrap (p0.tmod 21))) ∧ ρ 13 = (Sl.v l2.1) ∧ ρ 16 = (Sl.v r10) ∧ ρ 17 = (Sl.v r12) ∧ ρ 18 = (Value.int .i64 l13) ∧ True) ⟨e9, e10, e13, e16, e17, e18, trivial⟩ ?_
            rintro ρ ⟨e9, e10, e13, e16, e17, e18, -⟩
            refine wpC_region ?_
            refine wpR_val (v := (Sl.v r12)) (w' := w11) rfl rfl rfl (x_move (v := (Sl.v r12)) rfl e17) ?_
            refine wpR_val (v := (Sl.v r10)) (w' := w11) rfl rfl rfl (x_move (v := (Sl.v r10)) rfl e16) ?_
            refine wpR_val (v := (Value.int .i64 l13)) (w' := w11) rfl rfl rfl (x_move (v := (Value.int .i64 l13)) rfl e18) ?_
            obtain ⟨q28, z28, r28, h⟩ := h
            generalize hp28 : z28.add ((l13 : Int).toNat * 1) = p28 at h
            refine wpR_val (v := (Value.pointer (some p28))) (w' := w11) rfl rfl rfl ((x_indexAddr (s := r10) rfl rfl rfl ES_25 q28 r28).trans (by rw [hp28])) ?_
            obtain ⟨x29, q29, h⟩ := h
            refine wpR_val (v := (Value.int .i64 x29)) (w' := w11) rfl rfl rfl (x_load1 rfl rfl SH_3 q29) ?_
            obtain ⟨q30, z30, r30, h⟩ := h
            generalize hp30 : z30.add ((x29 : Int).toNat * 1) = p30 at h
            refine wpR_val (v := (Value.pointer (some p30))) (w' := w11) rfl rfl rfl ((x_indexAddr (s := r12) rfl rfl rfl ES_38 q30 r30).trans (by rw [hp30])) ?_
            obtain ⟨q31, h⟩ := h
            obtain ⟨w12, hw31⟩ : ∃ u, u = setAll w11 p30 [(Value.bool true)] 0 := ⟨_, rfl⟩
            replace h := h w12 hw31
            refine wpR_skp (w' := w12) rfl rfl ((x_store (v := (Value.bool true)) rfl rfl rfl SZ_4 (ones (by rfl)) q31).trans (by rw [hw31]; rfl)) ?_
            refine wpR_nil ?_
            refine wpC_cut (fun ρ => ρ 9 = (Value.bool r1) ∧ ρ 10 = (Value.int .i64 (IntKind.i64.wrap (p0.tmod 21))) ∧ ρ 13 = (Sl.v l2.1) ∧ ρ 16 = (Sl.v r10) ∧ ρ 17 = (Sl.v r12) ∧ ρ 18 = (Value.int .i64 l13) ∧ True) ⟨e9, e10, e13, e16, e17, e18, trivial⟩ ?_
            rintro ρ ⟨e9, e10, e13, e16, e17, e18, -⟩
            refine wpC_region ?_
            refine wpR_val (v := (Value.int .i64 l13)) (w' := w12) rfl rfl rfl (x_move (v := (Value.int .i64 l13)) rfl e18) ?_
            refine wpR_val (v := (Value.int .i64 (IntKind.i64.wrap (l13 + 1)))) (w' := w12) rfl rfl rfl (x_add rfl rfl rfl) ?_
            refine wpR_val (v := (Value.int .i64 (IntKind.i64.wrap (l13 + 1)))) (w' := w12) rfl rfl rfl (x_assign (v := (Value.int .i64 (IntKind.i64.wrap (l13 + 1)))) rfl rfl) ?_
            refine wpR_nil ?_
            exact ⟨IntKind.i64.wrap (l13 + 1), ⟨rfl, e9, e10, e13, e16, e17, trivial⟩, h⟩
      · replace h := h.2 hc14
        refine wpC_exit ?_
        refine wpC_seq ?_
        refine wpC_cut (fun ρ => ρ 9 = (Value.bool r1) ∧ ρ 10 = (Value.int .i64 (IntKind.i64.wrap (p0.tmod 21))) ∧ ρ 13 = (Sl.v l2.1) ∧ True) ⟨e9, e10, e13, trivial⟩ ?_
        rintro ρ ⟨e9, e10, e13, -⟩
        refine wpC_region ?_
        refine wpR_val (v := (Sl.v l2.1)) (w' := w11) rfl rfl rfl (x_move (v := (Sl.v l2.1)) rfl e13) ?_
        refine wpR_val (v := (Sl.v l2.1)) (w' := w11) rfl rfl rfl (x_move (v := (Sl.v l2.1)) rfl e13) ?_
        refine wpR_val (v := (Value.int .i64 (IntKind.i64.wrap (p0.tmod 21)))) (w' := w11) rfl rfl rfl (x_move (v := (Value.int .i64 (IntKind.i64.wrap (p0.tmod 21)))) rfl e10) ?_
        refine wpR_enter rfl rfl rfl (x_call (vs := [(Sl.v l2.1), (Sl.v l2.1), (Value.int .i64 (IntKind.i64.wrap (p0.tmod 21)))]) rfl rfl (mapl_cons rfl (mapl_cons rfl (mapl_cons rfl mapl_nil))) Try.func9 NN_9 NB_9) (Calls.mono h ?_)
        rintro _ w13 ⟨r32, rfl, h⟩
        refine ⟨_, rfl, ?_⟩
        refine wpR_val (v := (Sl.v r32)) (w' := w13) rfl rfl rfl (x_assign (v := (Sl.v r32)) rfl rfl) ?_
        refine wpR_nil ?_
        refine wpC_seq ?_
        refine wpC_seq ?_
        refine wpC_cut (fun ρ => ρ 9 = (Value.bool r1) ∧ ρ 10 = (Value.int .i64 (IntKind.i64.wrap (p0.tmod 21))) ∧ ρ 19 = (Sl.v r32) ∧ True) ⟨e9, e10, rfl, trivial⟩ ?_
        rintro ρ ⟨e9, e10, e19, -⟩
        refine wpC_region ?_
        refine wpR_val (v := (Value.int .i64 0)) (w' := w13) rfl rfl rfl (x_assign (v := (Value.int .i64 0)) rfl rfl) ?_
        refine wpR_nil ?_
        refine wpC_block ?_
        obtain ⟨I33, μ33, hI33, hr33⟩ := h
        refine wpC_loop (fun (x : Int) ρ => ρ 20 = (Value.int .i64 x) ∧ ρ 9 = (Value.bool r1) ∧ ρ 10 = (Value.int .i64 (IntKind.i64.wrap (p0.tmod 21))) ∧ ρ 19 = (Sl.v r32) ∧ True) I33 μ33 0 ⟨rfl, e9, e10, e19, trivial⟩ hI33 ?_
        rintro l33 ρ w14 ⟨e20, e9, e10, e19, -⟩ h
        replace h := hr33 l33 w14 h
        clear hr33 hI33
        refine wpC_seq ?_
        refine wpC_seq ?_
        refine wpC_region ?_
        refine wpR_val (v := (Value.int .i64 l33)) (w' := w14) rfl rfl rfl (x_move (v := (Value.int .i64 l33)) rfl e20) ?_
        refine wpR_val (v := (Sl.v r32)) (w' := w14) rfl rfl rfl (x_move (v := (Sl.v r32)) rfl e19) ?_
        refine wpR_val (v := (Value.int .i64 (r32.len : Int))) (w' := w14) rfl rfl rfl (x_lenS (s := r32) rfl rfl isSliceT_25) ?_
        refine wpR_val (v := (Value.bool (decide (l33 < (r32.len : Int))))) (w' := w14) rfl rfl rfl (x_lss rfl rfl rfl) ?_
        refine wpR_nil ?_
        refine wpC_cond (b := decide (l33 < (r32.len : Int))) rfl (fun hc34 => ?_) (fun hc34 => ?_)
        · replace h := h.1 hc34
          refine wpC_skip ?_
          refine wpC_seq ?_
          refine wpC_block ?_
          refine wpC_seq ?_
          refine wpC_cut (fun ρ => ρ 9 = (Value.bool r1) ∧ ρ 10 = (Value.int .i64 (IntKind.i64.wrap (p0.tmod 21))) ∧ ρ 19 = (Sl.v r32) ∧ ρ 20 = (Value.int .i64 l33) ∧ True) ⟨e9, e10, e19, e20, trivial⟩ ?_
          rintro ρ ⟨e9, e10, e19, e20, -⟩
          refine wpC_region ?_
          refine wpR_val (v := (Sl.v r32)) (w' := w14) rfl rfl rfl (x_move (v := (Sl.v r32)) rfl e19) ?_
          refine wpR_val (v := (Value.int .i64 l33)) (w' := w14) rfl rfl rfl (x_move (v := (Value.int .i64 l33)) rfl e20) ?_
          obtain ⟨q35, z35, r35, h⟩ := h
          generalize hp35 : z35.add ((l33 : Int).toNat * 1) = p35 at h
          refine wpR_val (v := (Value.pointer (some p35))) (w' := w14) rfl rfl rfl ((x_indexAddr (s := r32) rfl rfl rfl ES_25 q35 r35).trans (by rw [hp35])) ?_
          obtain ⟨x36, q36, h⟩ := h
          refine wpR_val (v := (Value.int .i64 x36)) (w' := w14) rfl rfl rfl (x_load1 rfl rfl SH_3 q36) ?_
          refine wpR_val (v := (Value.bool (!decide (x36 = (-1))))) (w' := w14) rfl rfl rfl (x_neq rfl rfl rfl) ?_
          refine wpR_nil ?_
          refine wpC_cond (b := !decide (x36 = (-1))) rfl (fun hc37 => ?_) (fun hc37 => ?_)
          · replace h := h.1 hc37
            refine wpC_seq ?_
            refine wpC_cut (fun ρ => True) trivial ?_
            rintro ρ -
            refine wpC_region ?_
            refine wpR_val (v := (Value.bool false)) (w' := w14) rfl rfl rfl (x_assign (v := (Value.bool false)) rfl rfl) ?_
            refine wpR_nil ?_
            refine wpC_ret ?_
            exact ⟨.inl rfl, fun a ha => ⟨_, results_rep1 rfl ha rfl, false, rfl, h⟩⟩
          · replace h := h.2 hc37
            refine wpC_skip ?_
            refine wpC_cut (fun ρ => ρ 9 = (Value.bool r1) ∧ ρ 10 = (Value.int .i64 (IntKind.i64.wrap (p0.tmod 21))) ∧ ρ 19 = (Sl.v r32) ∧ ρ 20 = (Value.int .i64 l33) ∧ True) ⟨e9, e10, e19, e20, trivial⟩ ?_
            rintro ρ ⟨e9, e10, e19, e20, -⟩
            refine wpC_region ?_
            refine wpR_val (v := (Value.int .i64 l33)) (w' := w14) rfl rfl rfl (x_move (v := (Value.int .i64 l33)) rfl e20) ?_
            refine wpR_val (v := (Value.int .i64 (IntKind.i64.wrap (l33 + 1)))) (w' := w14) rfl rfl rfl (x_add rfl rfl rfl) ?_
            refine wpR_val (v := (Value.int .i64 (IntKind.i64.wrap (l33 + 1)))) (w' := w14) rfl rfl rfl (x_assign (v := (Value.int .i64 (IntKind.i64.wrap (l33 + 1)))) rfl rfl) ?_
            refine wpR_nil ?_
            exact ⟨IntKind.i64.wrap (l33 + 1), ⟨rfl, e9, e10, e19, trivial⟩, h⟩
        · replace h := h.2 hc34
          refine wpC_exit ?_
          refine wpC_seq ?_
          refine wpC_cut (fun ρ => ρ 9 = (Value.bool r1) ∧ ρ 10 = (Value.int .i64 (IntKind.i64.wrap (p0.tmod 21))) ∧ ρ 19 = (Sl.v r32) ∧ True) ⟨e9, e10, e19, trivial⟩ ?_
          rintro ρ ⟨e9, e10, e19, -⟩
          refine wpC_region ?_
          refine wpR_val (v := (Value.bool r1)) (w' := w14) rfl rfl rfl (x_move (v := (Value.bool r1)) rfl e9) ?_
          refine wpR_val (v := (Value.bool r1)) (w' := w14) rfl rfl rfl (x_move (v := (Value.bool r1)) rfl rfl) ?_
          refine wpR_joinJ 5 (fun (_ : Unit) ρ => ρ 130 = Value.bool (r1 && (decide ((r32.len : Int) = (IntKind.i64.wrap (p0.tmod 21))))) ∧ True) (fun _ w => w14 = w) ?_ ?_
          · clear h
            rcases Bool.eq_false_or_eq_true (r1) with hc39 | hc39
            · skip
              refine wpR_val (v := (Sl.v r32)) (w' := w14) (wantG rfl rfl rfl hc39) rfl rfl (x_move (v := (Sl.v r32)) rfl e19) ?_
              refine wpR_val (v := (Value.int .i64 (r32.len : Int))) (w' := w14) (wantG rfl rfl rfl hc39) rfl rfl (x_lenS (s := r32) rfl rfl isSliceT_25) ?_
              refine wpR_val (v := (Value.int .i64 (IntKind.i64.wrap (p0.tmod 21)))) (w' := w14) (wantG rfl rfl rfl hc39) rfl rfl (x_move (v := (Value.int .i64 (IntKind.i64.wrap (p0.tmod 21)))) rfl e10) ?_
              refine wpR_val (v := (Value.bool (decide ((r32.len : Int) = (IntKind.i64.wrap (p0.tmod 21)))))) (w' := w14) (wantG rfl rfl rfl hc39) rfl rfl (x_eql rfl rfl rfl) ?_
              refine wpR_val (v := (Value.bool (decide ((r32.len : Int) = (IntKind.i64.wrap (p0.tmod 21)))))) (w' := w14) rfl rfl rfl (x_pickT (v := (Value.bool (decide ((r32.len : Int) = (IntKind.i64.wrap (p0.tmod 21)))))) rfl rfl hc39 rfl) ?_
              refine wpR_nil ?_
              exact ⟨(), ⟨(by rw [hc39]; rfl), trivial⟩, rfl⟩
            · skip
              refine wpR_pass (wantN rfl rfl rfl hc39) rfl rfl ?_
              refine wpR_pass (wantN rfl rfl rfl hc39) rfl rfl ?_
              refine wpR_pass (wantN rfl rfl rfl hc39) rfl rfl ?_
              refine wpR_pass (wantN rfl rfl rfl hc39) rfl rfl ?_
              refine wpR_val (v := (Value.bool false)) (w' := w14) rfl rfl rfl (x_pickF (v := (Value.bool false)) rfl rfl hc39 rfl) ?_
              refine wpR_nil ?_
              exact ⟨(), ⟨(by rw [hc39]; rfl), trivial⟩, rfl⟩
          rintro _ ρ wj ⟨e130, -⟩ rfl
          refine wpR_val (v := (Value.bool (r1 && (decide ((r32.len : Int) = (IntKind.i64.wrap (p0.tmod 21))))))) (w' := w14) rfl rfl rfl (x_assign (v := (Value.bool (r1 && (decide ((r32.len : Int) = (IntKind.i64.wrap (p0.tmod 21))))))) rfl e130) ?_
          refine wpR_nil ?_
          refine wpC_ret ?_
          exact ⟨.inl rfl, fun a ha => ⟨_, results_rep1 rfl ha rfl, r1 && (decide ((r32.len : Int) = (IntKind.i64.wrap (p0.tmod 21)))), rfl, h⟩⟩

/-- lingualaw36.small -/
def F7  (w0 : World) (K : Bool → World → Prop) : Prop :=
  callC Try.prog 17 #[(Value.int .i64 1), (Value.int .i64 10), (Value.int .i64 (-1))] (fun (r : Int × Int × Int × Int × Int) => (Value.agg #[(Value.int .i64 r.1), (Value.int .i64 r.2.1), (Value.int .i64 r.2.2.1), (Value.int .i64 r.2.2.2.1), (Value.int .i64 r.2.2.2.2)])) w0 fun r1 w1 =>
  callC Try.prog 17 #[(Value.int .i64 1), (Value.int .i64 12), (Value.int .i64 (-1))] (fun (r : Int × Int × Int × Int × Int) => (Value.agg #[(Value.int .i64 r.1), (Value.int .i64 r.2.1), (Value.int .i64 r.2.2.1), (Value.int .i64 r.2.2.2.1), (Value.int .i64 r.2.2.2.2)])) w1 fun r2 w2 =>
  callC Try.prog 17 #[(Value.int .i64 2), (Value.int .i64 13), (Value.int .i64 0)] (fun (r : Int × Int × Int × Int × Int) => (Value.agg #[(Value.int .i64 r.1), (Value.int .i64 r.2.1), (Value.int .i64 r.2.2.1), (Value.int .i64 r.2.2.2.1), (Value.int .i64 r.2.2.2.2)])) w2 fun r3 w3 =>
  nw 30 #[(Value.int .i64 r1.1), (Value.int .i64 r1.2.1), (Value.int .i64 r1.2.2.1), (Value.int .i64 r1.2.2.2.1), (Value.int .i64 r1.2.2.2.2), (Value.int .i64 r2.1), (Value.int .i64 r2.2.1), (Value.int .i64 r2.2.2.1), (Value.int .i64 r2.2.2.2.1), (Value.int .i64 r2.2.2.2.2), (Value.int .i64 r3.1), (Value.int .i64 r3.2.1), (Value.int .i64 r3.2.2.1), (Value.int .i64 r3.2.2.2.1), (Value.int .i64 r3.2.2.2.2)] w3 fun b4 w4 =>
  callC Try.prog 17 #[(Value.int .i64 14), (Value.int .i64 14), (Value.int .i64 (-1))] (fun (r : Int × Int × Int × Int × Int) => (Value.agg #[(Value.int .i64 r.1), (Value.int .i64 r.2.1), (Value.int .i64 r.2.2.1), (Value.int .i64 r.2.2.2.1), (Value.int .i64 r.2.2.2.2)])) w4 fun r5 w5 =>
  callC Try.prog 11 #[(Sl.v (⟨some ⟨b4, 0, none⟩, 3, 3⟩ : Sl)), (Value.agg #[(Value.int .i64 r5.1), (Value.int .i64 r5.2.1), (Value.int .i64 r5.2.2.1), (Value.int .i64 r5.2.2.2.1), (Value.int .i64 r5.2.2.2.2)]), (Value.int .i64 9)] (fun (r : Int × Bool) => (Value.tuple #[(Value.int .i64 r.1), (Value.bool r.2)])) w5 fun r6 w6 =>
  callC Try.prog 17 #[(Value.int .i64 14), (Value.int .i64 14), (Value.int .i64 (-1))] (fun (r : Int × Int × Int × Int × Int) => (Value.agg #[(Value.int .i64 r.1), (Value.int .i64 r.2.1), (Value.int .i64 r.2.2.1), (Value.int .i64 r.2.2.2.1), (Value.int .i64 r.2.2.2.2)])) w6 fun r7 w7 =>
  callC Try.prog 11 #[(Sl.v (⟨some ⟨b4, 0, none⟩, 3, 3⟩ : Sl)), (Value.agg #[(Value.int .i64 r7.1), (Value.int .i64 r7.2.1), (Value.int .i64 r7.2.2.1), (Value.int .i64 r7.2.2.2.1), (Value.int .i64 r7.2.2.2.2)]), (Value.int .i64 1)] (fun (r : Int × Bool) => (Value.tuple #[(Value.int .i64 r.1), (Value.bool r.2)])) w7 fun r8 w8 =>
  callC Try.prog 17 #[(Value.int .i64 13), (Value.int .i64 14), (Value.int .i64 (-1))] (fun (r : Int × Int × Int × Int × Int) => (Value.agg #[(Value.int .i64 r.1), (Value.int .i64 r.2.1), (Value.int .i64 r.2.2.1), (Value.int .i64 r.2.2.2.1), (Value.int .i64 r.2.2.2.2)])) w8 fun r9 w9 =>
  callC Try.prog 11 #[(Sl.v (⟨some ⟨b4, 0, none⟩, 3, 3⟩ : Sl)), (Value.agg #[(Value.int .i64 r9.1), (Value.int .i64 r9.2.1), (Value.int .i64 r9.2.2.1), (Value.int .i64 r9.2.2.2.1), (Value.int .i64 r9.2.2.2.2)]), (Value.int .i64 9)] (fun (r : Int × Bool) => (Value.tuple #[(Value.int .i64 r.1), (Value.bool r.2)])) w9 fun r10 w10 =>
  callC Try.prog 17 #[(Value.int .i64 2), (Value.int .i64 14), (Value.int .i64 (-1))] (fun (r : Int × Int × Int × Int × Int) => (Value.agg #[(Value.int .i64 r.1), (Value.int .i64 r.2.1), (Value.int .i64 r.2.2.1), (Value.int .i64 r.2.2.2.1), (Value.int .i64 r.2.2.2.2)])) w10 fun r11 w11 =>
  callC Try.prog 17 #[(Value.int .i64 14), (Value.int .i64 14), (Value.int .i64 (-1))] (fun (r : Int × Int × Int × Int × Int) => (Value.agg #[(Value.int .i64 r.1), (Value.int .i64 r.2.1), (Value.int .i64 r.2.2.1), (Value.int .i64 r.2.2.2.1), (Value.int .i64 r.2.2.2.2)])) w11 fun r12 w12 =>
  callC Try.prog 17 #[(Value.int .i64 2), (Value.int .i64 15), (Value.int .i64 (-1))] (fun (r : Int × Int × Int × Int × Int) => (Value.agg #[(Value.int .i64 r.1), (Value.int .i64 r.2.1), (Value.int .i64 r.2.2.1), (Value.int .i64 r.2.2.2.1), (Value.int .i64 r.2.2.2.2)])) w12 fun r13 w13 =>
  nw 30 #[(Value.int .i64 r11.1), (Value.int .i64 r11.2.1), (Value.int .i64 r11.2.2.1), (Value.int .i64 r11.2.2.2.1), (Value.int .i64 r11.2.2.2.2), (Value.int .i64 r12.1), (Value.int .i64 r12.2.1), (Value.int .i64 r12.2.2.1), (Value.int .i64 r12.2.2.2.1), (Value.int .i64 r12.2.2.2.2), (Value.int .i64 r13.1), (Value.int .i64 r13.2.1), (Value.int .i64 r13.2.2.1), (Value.int .i64 r13.2.2.2.1), (Value.int .i64 r13.2.2.2.2)] w13 fun b14 w14 =>
  rn Try.prog (Instr.sliceAt 22 (Sl.v (⟨some ⟨b14, 0, none⟩, 3, 3⟩ : Sl)) none (some (Value.int .i64 2)) none) (fun (r : Sl) => (Sl.v r)) w14 fun r15 w15 =>
  callC Try.prog 9 #[(Sl.v (⟨some ⟨b4, 0, none⟩, 3, 3⟩ : Sl)), (Sl.v r15), (Value.int .i64 9)] (fun (r : Sl) => (Sl.v r)) w15 fun r16 w16 =>
  nw 3 #[(Value.int .i64 1), (Value.int .i64 0)] w16 fun b17 w17 =>
  callC Try.prog 8 #[(Sl.v r16), (Sl.v (⟨some ⟨b17, 0, none⟩, 2, 2⟩ : Sl))] (fun (r : Bool) => (Value.bool r)) w17 fun r18 w18 =>
  jn (fun J19 => cnd (r18)
    (
    callC Try.prog 9 #[(Sl.v (⟨some ⟨b4, 0, none⟩, 3, 3⟩ : Sl)), (Sl.v (⟨some ⟨b14, 0, none⟩, 3, 3⟩ : Sl)), (Value.int .i64 9)] (fun (r : Sl) => (Sl.v r)) w18 fun r21 w19 =>
    nw 3 #[(Value.int .i64 1), (Value.int .i64 0), (Value.int .i64 (-1))] w19 fun b22 w20 =>
    callC Try.prog 8 #[(Sl.v r21), (Sl.v (⟨some ⟨b22, 0, none⟩, 3, 3⟩ : Sl))] (fun (r : Bool) => (Value.bool r)) w20 fun r23 w21 =>
    J19 r23 w21
    )
    (
    J19 false w18
    ))
  fun c24 w22 =>
  jn (fun (J26 : Bool → World → Prop) => tk w22 fun w23 =>
    cnd (c24)
      (
      cnd (r6.2)
        (
        cnd (decide (r6.1 = 1))
          (
          cnd (!r8.2)
            (
            cnd (!r10.2)
              (
              ix (⟨some ⟨b4, 0, none⟩, 3, 3⟩ : Sl) 0 5 fun p32 =>
              ld (Value.int .i64) (p32.add 0) w23 fun x33 =>
              ld (Value.int .i64) (p32.add 1) w23 fun x34 =>
              ld (Value.int .i64) (p32.add 2) w23 fun x35 =>
              ld (Value.int .i64) (p32.add 3) w23 fun x36 =>
              ld (Value.int .i64) (p32.add 4) w23 fun x37 =>
              ix (⟨some ⟨b4, 0, none⟩, 3, 3⟩ : Sl) 2 5 fun p38 =>
              ld (Value.int .i64) (p38.add 0) w23 fun x39 =>
              ld (Value.int .i64) (p38.add 1) w23 fun x40 =>
              ld (Value.int .i64) (p38.add 2) w23 fun x41 =>
              ld (Value.int .i64) (p38.add 3) w23 fun x42 =>
              ld (Value.int .i64) (p38.add 4) w23 fun x43 =>
              callC Try.prog 13 #[(Value.agg #[(Value.int .i64 x33), (Value.int .i64 x34), (Value.int .i64 x35), (Value.int .i64 x36), (Value.int .i64 x37)]), (Value.agg #[(Value.int .i64 x39), (Value.int .i64 x40), (Value.int .i64 x41), (Value.int .i64 x42), (Value.int .i64 x43)])] (fun (r : Int) => (Value.int .i64 r)) w23 fun r44 w24 =>
              J26 (decide (r44 = 2)) w24
              )
              (
              J26 false w23
              )
            )
            (
            J26 false w23
            )
          )
          (
          J26 false w23
          )
        )
        (
        J26 false w23
        )
      )
      (
      J26 false w23
      )
  )
  fun l45 w25 =>
  K l45 w25
set_option maxRecDepth 100000 in
theorem D7  (w0 : World) (K : Bool → World → Prop) (h : F7  w0 K) : callC Try.prog 7 #[] (fun (r : Bool) => (Value.bool r)) w0 K := by
  unfold F7 at h
  refine calls_of_wpC Try.func7 rfl 75 rfl (by simp) ?_
  intro ρ hρ
  clear hρ
  refine wpC_seq ?_
  refine wpC_region ?_
  refine wpR_val (v := (Value.bool false)) (w' := w0) rfl rfl rfl (x_assign (v := (Value.bool false)) rfl rfl) ?_
  refine wpR_nil ?_
  refine wpC_seq ?_
  refine wpC_cut (fun ρ => True) trivial ?_
  rintro ρ -
  refine wpC_region ?_
  refine wpR_enter rfl rfl rfl (x_call (vs := [(Value.int .i64 1), (Value.int .i64 10), (Value.int .i64 (-1))]) rfl rfl (mapl_cons rfl (mapl_cons rfl (mapl_cons rfl mapl_nil))) Try.func17 NN_17 NB_17) (Calls.mono h ?_)
  rintro _ w1 ⟨r1, rfl, h⟩
  refine ⟨_, rfl, ?_⟩
  refine wpR_enter rfl rfl rfl (x_call (vs := [(Value.int .i64 1), (Value.int .i64 12), (Value.int .i64 (-1))]) rfl rfl (mapl_cons rfl (mapl_cons rfl (mapl_cons rfl mapl_nil))) Try.func17 NN_17 NB_17) (Calls.mono h ?_)
  rintro _ w2 ⟨r2, rfl, h⟩
  refine ⟨_, rfl, ?_⟩
  refine wpR_enter rfl rfl rfl (x_call (vs := [(Value.int .i64 2), (Value.int .i64 13), (Value.int .i64 0)]) rfl rfl (mapl_cons rfl (mapl_cons rfl (mapl_cons rfl mapl_nil))) Try.func17 NN_17 NB_17) (Calls.mono h ?_)
  rintro _ w3 ⟨r3, rfl, h⟩
  refine ⟨_, rfl, ?_⟩
  obtain ⟨b4, hb4⟩ : ∃ u, u = w3.heap.size := ⟨_, rfl⟩
  obtain ⟨w4, hw4⟩ : ∃ u, u = w3.alloc (.cells #[(Value.int .i64 r1.1), (Value.int .i64 r1.2.1), (Value.int .i64 r1.2.2.1), (Value.int .i64 r1.2.2.2.1), (Value.int .i64 r1.2.2.2.2), (Value.int .i64 r2.1), (Value.int .i64 r2.2.1), (Value.int .i64 r2.2.2.1), (Value.int .i64 r2.2.2.2.1), (Value.int .i64 r2.2.2.2.2), (Value.int .i64 r3.1), (Value.int .i64 r3.2.1), (Value.int .i64 r3.2.2.1), (Value.int .i64 r3.2.2.2.1), (Value.int .i64 r3.2.2.2.2)] 30) := ⟨_, rfl⟩
  replace h := h b4 w4 hb4 hw4
  refine wpR_val (v := (Sl.v (⟨some ⟨b4, 0, none⟩, 3, 3⟩ : Sl))) (w' := w4) rfl rfl rfl ((x_buildSlice (qs := [(0, (Value.agg #[(Value.int .i64 r1.1), (Value.int .i64 r1.2.1), (Value.int .i64 r1.2.2.1), (Value.int .i64 r1.2.2.2.1), (Value.int .i64 r1.2.2.2.2)])), (1, (Value.agg #[(Value.int .i64 r2.1), (Value.int .i64 r2.2.1), (Value.int .i64 r2.2.2.1), (Value.int .i64 r2.2.2.2.1), (Value.int .i64 r2.2.2.2.2)])), (2, (Value.agg #[(Value.int .i64 r3.1), (Value.int .i64 r3.2.1), (Value.int .i64 r3.2.2.1), (Value.int .i64 r3.2.2.2.1), (Value.int .i64 r3.2.2.2.2)]))]) rfl (by rfl) (BS_22_3_0_1_2 r1.1 r1.2.1 r1.2.2.1 r1.2.2.2.1 r1.2.2.2.2 r2.1 r2.2.1 r2.2.2.1 r2.2.2.2.1 r2.2.2.2.2 r3.1 r3.2.1 r3.2.2.1 r3.2.2.2.1 r3.2.2.2.2)).trans (by rw [← hb4, ← hw4])) ?_
  refine wpR_val (v := (Sl.v (⟨some ⟨b4, 0, none⟩, 3, 3⟩ : Sl))) (w' := w4) rfl rfl rfl (x_assign (v := (Sl.v (⟨some ⟨b4, 0, none⟩, 3, 3⟩ : Sl))) rfl rfl) ?_
  refine wpR_nil ?_
  refine wpC_seq ?_
  refine wpC_cut (fun ρ => ρ 1 = (Sl.v (⟨some ⟨b4, 0, none⟩, 3, 3⟩ : Sl)) ∧ True) ⟨rfl, trivial⟩ ?_
  rintro ρ ⟨e1, -⟩
  refine wpC_region ?_
  refine wpR_val (v := (Sl.v (⟨some ⟨b4, 0, none⟩, 3, 3⟩ : Sl))) (w' := w4) rfl rfl rfl (x_move (v := (Sl.v (⟨some ⟨b4, 0, none⟩, 3, 3⟩ : Sl))) rfl e1) ?_
  refine wpR_enter rfl rfl rfl (x_call (vs := [(Value.int .i64 14), (Value.int .i64 14), (Value.int .i64 (-1))]) rfl rfl (mapl_cons rfl (mapl_cons rfl (mapl_cons rfl mapl_nil))) Try.func17 NN_17 NB_17) (Calls.mono h ?_)
  rintro _ w5 ⟨r5, rfl, h⟩
  refine ⟨_, rfl, ?_⟩
  refine wpR_enter rfl rfl rfl (x_call (vs := [(Sl.v (⟨some ⟨b4, 0, none⟩, 3, 3⟩ : Sl)), (Value.agg #[(Value.int .i64 r5.1), (Value.int .i64 r5.2.1), (Value.int .i64 r5.2.2.1), (Value.int .i64 r5.2.2.2.1), (Value.int .i64 r5.2.2.2.2)]), (Value.int .i64 9)]) rfl rfl (mapl_cons rfl (mapl_cons rfl (mapl_cons rfl mapl_nil))) Try.func11 NN_11 NB_11) (Calls.mono h ?_)
  rintro _ w6 ⟨r6, rfl, h⟩
  refine ⟨_, rfl, ?_⟩
  refine wpR_val (v := (Value.tuple #[(Value.int .i64 r6.1), (Value.bool r6.2)])) (w' := w6) rfl rfl rfl (x_move (v := (Value.tuple #[(Value.int .i64 r6.1), (Value.bool r6.2)])) rfl rfl) ?_
  refine wpR_val (v := (Value.int .i64 r6.1)) (w' := w6) rfl rfl rfl (x_extract rfl rfl rfl) ?_
  refine wpR_val (v := (Value.bool r6.2)) (w' := w6) rfl rfl rfl (x_extract rfl rfl rfl) ?_
  refine wpR_val (v := (Value.int .i64 r6.1)) (w' := w6) rfl rfl rfl (x_assign (v := (Value.int .i64 r6.1)) rfl rfl) ?_
  refine wpR_val (v := (Value.bool r6.2)) (w' := w6) rfl rfl rfl (x_assign (v := (Value.bool r6.2)) rfl rfl) ?_
  refine wpR_nil ?_
  refine wpC_seq ?_
  refine wpC_cut (fun ρ => ρ 1 = (Sl.v (⟨some ⟨b4, 0, none⟩, 3, 3⟩ : Sl)) ∧ ρ 2 = (Value.int .i64 r6.1) ∧ ρ 3 = (Value.bool r6.2) ∧ True) ⟨e1, rfl, rfl, trivial⟩ ?_
  rintro ρ ⟨e1, e2, e3, -⟩
  refine wpC_region ?_
  refine wpR_val (v := (Sl.v (⟨some ⟨b4, 0, none⟩, 3, 3⟩ : Sl))) (w' := w6) rfl rfl rfl (x_move (v := (Sl.v (⟨some ⟨b4, 0, none⟩, 3, 3⟩ : Sl))) rfl e1) ?_
  refine wpR_enter rfl rfl rfl (x_call (vs := [(Value.int .i64 14), (Value.int .i64 14), (Value.int .i64 (-1))]) rfl rfl (mapl_cons rfl (mapl_cons rfl (mapl_cons rfl mapl_nil))) Try.func17 NN_17 NB_17) (Calls.mono h ?_)
  rintro _ w7 ⟨r7, rfl, h⟩
  refine ⟨_, rfl, ?_⟩
  refine wpR_enter rfl rfl rfl (x_call (vs := [(Sl.v (⟨some ⟨b4, 0, none⟩, 3, 3⟩ : Sl)), (Value.agg #[(Value.int .i64 r7.1), (Value.int .i64 r7.2.1), (Value.int .i64 r7.2.2.1), (Value.int .i64 r7.2.2.2.1), (Value.int .i64 r7.2.2.2.2)]), (Value.int .i64 1)]) rfl rfl (mapl_cons rfl (mapl_cons rfl (mapl_cons rfl mapl_nil))) Try.func11 NN_11 NB_11) (Calls.mono h ?_)
  rintro _ w8 ⟨r8, rfl, h⟩
  refine ⟨_, rfl, ?_⟩
  refine wpR_val (v := (Value.tuple #[(Value.int .i64 r8.1), (Value.bool r8.2)])) (w' := w8) rfl rfl rfl (x_move (v := (Value.tuple #[(Value.int .i64 r8.1), (Value.bool r8.2)])) rfl rfl) ?_
  refine wpR_val (v := (Value.int .i64 r8.1)) (w' := w8) rfl rfl rfl (x_extract rfl rfl rfl) ?_
  refine wpR_val (v := (Value.bool r8.2)) (w' := w8) rfl rfl rfl (x_extract rfl rfl rfl) ?_
  refine wpR_val (v := (Value.int .i64 r8.1)) (w' := w8) rfl rfl rfl (x_assign (v := (Value.int .i64 r8.1)) rfl rfl) ?_
  refine wpR_val (v := (Value.bool r8.2)) (w' := w8) rfl rfl rfl (x_assign (v := (Value.bool r8.2)) rfl rfl) ?_
  refine wpR_nil ?_
  refine wpC_seq ?_
  refine wpC_cut (fun ρ => ρ 1 = (Sl.v (⟨some ⟨b4, 0, none⟩, 3, 3⟩ : Sl)) ∧ ρ 2 = (Value.int .i64 r6.1) ∧ ρ 3 = (Value.bool r6.2) ∧ ρ 5 = (Value.bool r8.2) ∧ True) ⟨e1, e2, e3, rfl, trivial⟩ ?_
  rintro ρ ⟨e1, e2, e3, e5, -⟩
  refine wpC_region ?_
  refine wpR_val (v := (Sl.v (⟨some ⟨b4, 0, none⟩, 3, 3⟩ : Sl))) (w' := w8) rfl rfl rfl (x_move (v := (Sl.v (⟨some ⟨b4, 0, none⟩, 3, 3⟩ : Sl))) rfl e1) ?_
  refine wpR_enter rfl rfl rfl (x_call (vs := [(Value.int .i64 13), (Value.int .i64 14), (Value.int .i64 (-1))]) rfl rfl (mapl_cons rfl (mapl_cons rfl (mapl_cons rfl mapl_nil))) Try.func17 NN_17 NB_17) (Calls.mono h ?_)
  rintro _ w9 ⟨r9, rfl, h⟩
  refine ⟨_, rfl, ?_⟩
  refine wpR_enter rfl rfl rfl (x_call (vs := [(Sl.v (⟨some ⟨b4, 0, none⟩, 3, 3⟩ : Sl)), (Value.agg #[(Value.int .i64 r9.1), (Value.int .i64 r9.2.1), (Value.int .i64 r9.2.2.1), (Value.int .i64 r9.2.2.2.1), (Value.int .i64 r9.2.2.2.2)]), (Value.int .i64 9)]) rfl rfl (mapl_cons rfl (mapl_cons rfl (mapl_cons rfl mapl_nil))) Try.func11 NN_11 NB_11) (Calls.mono h ?_)
  rintro _ w10 ⟨r10, rfl, h⟩
  refine ⟨_, rfl, ?_⟩
  refine wpR_val (v := (Value.tuple #[(Value.int .i64 r10.1), (Value.bool r10.2)])) (w' := w10) rfl rfl rfl (x_move (v := (Value.tuple #[(Value.int .i64 r10.1), (Value.bool r10.2)])) rfl rfl) ?_
  refine wpR_val (v := (Value.int .i64 r10.1)) (w' := w10) rfl rfl rfl (x_extract rfl rfl rfl) ?_
  refine wpR_val (v := (Value.bool r10.2)) (w' := w10) rfl rfl rfl (x_extract rfl rfl rfl) ?_
  refine wpR_val (v := (Value.int .i64 r10.1)) (w' := w10) rfl rfl rfl (x_assign (v := (Value.int .i64 r10.1)) rfl rfl) ?_
  refine wpR_val (v := (Value.bool r10.2)) (w' := w10) rfl rfl rfl (x_assign (v := (Value.bool r10.2)) rfl rfl) ?_
  refine wpR_nil ?_
  refine wpC_seq ?_
  refine wpC_cut (fun ρ => ρ 1 = (Sl.v (⟨some ⟨b4, 0, none⟩, 3, 3⟩ : Sl)) ∧ ρ 2 = (Value.int .i64 r6.1) ∧ ρ 3 = (Value.bool r6.2) ∧ ρ 5 = (Value.bool r8.2) ∧ ρ 7 = (Value.bool r10.2) ∧ True) ⟨e1, e2, e3, e5, rfl, trivial⟩ ?_
  rintro ρ ⟨e1, e2, e3, e5, e7, -⟩
  refine wpC_region ?_
  refine wpR_enter rfl rfl rfl (x_call (vs := [(Value.int .i64 2), (Value.int .i64 14), (Value.int .i64 (-1))]) rfl rfl (mapl_cons rfl (mapl_cons rfl (mapl_cons rfl mapl_nil))) Try.func17 NN_17 NB_17) (Calls.mono h ?_)
  rintro _ w11 ⟨r11, rfl, h⟩
  refine ⟨_, rfl, ?_⟩
  refine wpR_enter rfl rfl rfl (x_call (vs := [(Value.int .i64 14), (Value.int .i64 14), (Value.int .i64 (-1))]) rfl rfl (mapl_cons rfl (mapl_cons rfl (mapl_cons rfl mapl_nil))) Try.func17 NN_17 NB_17) (Calls.mono h ?_)
  rintro _ w12 ⟨r12, rfl, h⟩
  refine ⟨_, rfl, ?_⟩
  refine wpR_enter rfl rfl rfl (x_call (vs := [(Value.int .i64 2), (Value.int .i64 15), (Value.int .i64 (-1))]) rfl rfl (mapl_cons rfl (mapl_cons rfl (mapl_cons rfl mapl_nil))) Try.func17 NN_17 NB_17) (Calls.mono h ?_)
  rintro _ w13 ⟨r13, rfl, h⟩
  refine ⟨_, rfl, ?_⟩
  obtain ⟨b14, hb14⟩ : ∃ u, u = w13.heap.size := ⟨_, rfl⟩
  obtain ⟨w14, hw14⟩ : ∃ u, u = w13.alloc (.cells #[(Value.int .i64 r11.1), (Value.int .i64 r11.2.1), (Value.int .i64 r11.2.2.1), (Value.int .i64 r11.2.2.2.1), (Value.int .i64 r11.2.2.2.2), (Value.int .i64 r12.1), (Value.int .i64 r12.2.1), (Value.int .i64 r12.2.2.1), (Value.int .i64 r12.2.2.2.1), (Value.int .i64 r12.2.2.2.2), (Value.int .i64 r13.1), (Value.int .i64 r13.2.1), (Value.int .i64 r13.2.2.1), (Value.int .i64 r13.2.2.2.1), (Value.int .i64 r13.2.2.2.2)] 30) := ⟨_, rfl⟩
  replace h := h b14 w14 hb14 hw14
  refine wpR_val (v := (Sl.v (⟨some ⟨b14, 0, none⟩, 3, 3⟩ : Sl))) (w' := w14) rfl rfl rfl ((x_buildSlice (qs := [(0, (Value.agg #[(Value.int .i64 r11.1), (Value.int .i64 r11.2.1), (Value.int .i64 r11.2.2.1), (Value.int .i64 r11.2.2.2.1), (Value.int .i64 r11.2.2.2.2)])), (1, (Value.agg #[(Value.int .i64 r12.1), (Value.int .i64 r12.2.1), (Value.int .i64 r12.2.2.1), (Value.int .i64 r12.2.2.2.1), (Value.int .i64 r12.2.2.2.2)])), (2, (Value.agg #[(Value.int .i64 r13.1), (Value.int .i64 r13.2.1), (Value.int .i64 r13.2.2.1), (Value.int .i64 r13.2.2.2.1), (Value.int .i64 r13.2.2.2.2)]))]) rfl (by rfl) (BS_22_3_0_1_2 r11.1 r11.2.1 r11.2.2.1 r11.2.2.2.1 r11.2.2.2.2 r12.1 r12.2.1 r12.2.2.1 r12.2.2.2.1 r12.2.2.2.2 r13.1 r13.2.1 r13.2.2.1 r13.2.2.2.1 r13.2.2.2.2)).trans (by rw [← hb14, ← hw14])) ?_
  refine wpR_val (v := (Sl.v (⟨some ⟨b14, 0, none⟩, 3, 3⟩ : Sl))) (w' := w14) rfl rfl rfl (x_assign (v := (Sl.v (⟨some ⟨b14, 0, none⟩, 3, 3⟩ : Sl))) rfl rfl) ?_
  refine wpR_nil ?_
  refine wpC_seq ?_
  refine wpC_cut (fun ρ => ρ 1 = (Sl.v (⟨some ⟨b4, 0, none⟩, 3, 3⟩ : Sl)) ∧ ρ 2 = (Value.int .i64 r6.1) ∧ ρ 3 = (Value.bool r6.2) ∧ ρ 5 = (Value.bool r8.2) ∧ ρ 7 = (Value.bool r10.2) ∧ ρ 8 = (Sl.v (⟨some ⟨b14, 0, none⟩, 3, 3⟩ : Sl)) ∧ True) ⟨e1, e2, e3, e5, e7, rfl, trivial⟩ ?_
  rintro ρ ⟨e1, e2, e3, e5, e7, e8, -⟩
  refine wpC_region ?_
  refine wpR_val (v := (Sl.v (⟨some ⟨b4, 0, none⟩, 3, 3⟩ : Sl))) (w' := w14) rfl rfl rfl (x_move (v := (Sl.v (⟨some ⟨b4, 0, none⟩, 3, 3⟩ : Sl))) rfl e1) ?_
  refine wpR_val (v := (Sl.v (⟨some ⟨b14, 0, none⟩, 3, 3⟩ : Sl))) (w' := w14) rfl rfl rfl (x_move (v := (Sl.v (⟨some ⟨b14, 0, none⟩, 3, 3⟩ : Sl))) rfl e8) ?_
  obtain ⟨r15, w15, q15, h⟩ := h
  refine wpR_val (v := (Sl.v r15)) (w' := w15) rfl rfl rfl (x_sliceAt rfl rfl rfl (congrArg some rfl) rfl q15) ?_
  refine wpR_enter rfl rfl rfl (x_call (vs := [(Sl.v (⟨some ⟨b4, 0, none⟩, 3, 3⟩ : Sl)), (Sl.v r15), (Value.int .i64 9)]) rfl rfl (mapl_cons rfl (mapl_cons rfl (mapl_cons rfl mapl_nil))) Try.func9 NN_9 NB_9) (Calls.mono h ?_)
  rintro _ w16 ⟨r16, rfl, h⟩
  refine ⟨_, rfl, ?_⟩
  obtain ⟨b17, hb17⟩ : ∃ u, u = w16.heap.size := ⟨_, rfl⟩
  obtain ⟨w17, hw17⟩ : ∃ u, u = w16.alloc (.cells #[(Value.int .i64 1), (Value.int .i64 0)] 3) := ⟨_, rfl⟩
  replace h := h b17 w17 hb17 hw17
  refine wpR_val (v := (Sl.v (⟨some ⟨b17, 0, none⟩, 2, 2⟩ : Sl))) (w' := w17) rfl rfl rfl ((x_buildSlice (qs := [(0, (Value.int .i64 1)), (1, (Value.int .i64 0))]) rfl (by rfl) (BS_25_2_0_1 1 0)).trans (by rw [← hb17, ← hw17])) ?_
  refine wpR_enter rfl rfl rfl (x_call (vs := [(Sl.v r16), (Sl.v (⟨some ⟨b17, 0, none⟩, 2, 2⟩ : Sl))]) rfl rfl (mapl_cons rfl (mapl_cons rfl mapl_nil)) Try.func8 NN_8 NB_8) (Calls.mono h ?_)
  rintro _ w18 ⟨r18, rfl, h⟩
  refine ⟨_, rfl, ?_⟩
  refine wpR_val (v := (Value.bool r18)) (w' := w18) rfl rfl rfl (x_move (v := (Value.bool r18)) rfl rfl) ?_
  obtain ⟨J19, h, hk⟩ := h
  refine wpR_joinJ 6 (fun x ρ => ρ 48 = Value.bool x ∧ ρ 1 = (Sl.v (⟨some ⟨b4, 0, none⟩, 3, 3⟩ : Sl)) ∧ ρ 2 = (Value.int .i64 r6.1) ∧ ρ 3 = (Value.bool r6.2) ∧ ρ 5 = (Value.bool r8.2) ∧ ρ 7 = (Value.bool r10.2) ∧ True) (J19) ?_ ?_
  · clear hk
    rcases Bool.eq_false_or_eq_true (r18) with hc20 | hc20
    · replace h := h.1 hc20
      refine wpR_val (v := (Sl.v (⟨some ⟨b4, 0, none⟩, 3, 3⟩ : Sl))) (w' := w18) (wantG rfl rfl rfl hc20) rfl rfl (x_move (v := (Sl.v (⟨some ⟨b4, 0, none⟩, 3, 3⟩ : Sl))) rfl e1) ?_
      refine wpR_val (v := (Sl.v (⟨some ⟨b14, 0, none⟩, 3, 3⟩ : Sl))) (w' := w18) (wantG rfl rfl rfl hc20) rfl rfl (x_move (v := (Sl.v (⟨some ⟨b14, 0, none⟩, 3, 3⟩ : Sl))) rfl e8) ?_
      refine wpR_enter (wantG rfl rfl rfl hc20) rfl rfl (x_call (vs := [(Sl.v (⟨some ⟨b4, 0, none⟩, 3, 3⟩ : Sl)), (Sl.v (⟨some ⟨b14, 0, none⟩, 3, 3⟩ : Sl)), (Value.int .i64 9)]) rfl rfl (mapl_cons rfl (mapl_cons rfl (mapl_cons rfl mapl_nil))) Try.func9 NN_9 NB_9) (Calls.mono h ?_)
      rintro _ w19 ⟨r21, rfl, h⟩
      refine ⟨_, rfl, ?_⟩
      obtain ⟨b22, hb22⟩ : ∃ u, u = w19.heap.size := ⟨_, rfl⟩
      obtain ⟨w20, hw22⟩ : ∃ u, u = w19.alloc (.cells #[(Value.int .i64 1), (Value.int .i64 0), (Value.int .i64 (-1))] 3) := ⟨_, rfl⟩
      replace h := h b22 w20 hb22 hw22
      refine wpR_val (v := (Sl.v (⟨some ⟨b22, 0, none⟩, 3, 3⟩ : Sl))) (w' := w20) (wantG rfl rfl rfl hc20) rfl rfl ((x_buildSlice (qs := [(0, (Value.int .i64 1)), (1, (Value.int .i64 0)), (2, (Value.int .i64 (-1)))]) rfl (by rfl) (BS_25_3_0_1_2 1 0 (-1))).trans (by rw [← hb22, ← hw22])) ?_
      refine wpR_enter (wantG rfl rfl rfl hc20) rfl rfl (x_call (vs := [(Sl.v r21), (Sl.v (⟨some ⟨b22, 0, none⟩, 3, 3⟩ : Sl))]) rfl rfl (mapl_cons rfl (mapl_cons rfl mapl_nil)) Try.func8 NN_8 NB_8) (Calls.mono h ?_)
      rintro _ w21 ⟨r23, rfl, h⟩
      refine ⟨_, rfl, ?_⟩
      refine wpR_val (v := (Value.bool r23)) (w' := w21) rfl rfl rfl (x_pickT (v := (Value.bool r23)) rfl rfl hc20 rfl) ?_
      refine wpR_nil ?_
      exact ⟨r23, ⟨rfl, e1, e2, e3, e5, e7, trivial⟩, h⟩
    · replace h := h.2 hc20
      refine wpR_pass (wantN rfl rfl rfl hc20) rfl rfl ?_
      refine wpR_pass (wantN rfl rfl rfl hc20) rfl rfl ?_
      refine wpR_pass (wantN rfl rfl rfl hc20) rfl rfl ?_
      refine wpR_pass (wantN rfl rfl rfl hc20) rfl rfl ?_
      refine wpR_pass (wantN rfl rfl rfl hc20) rfl rfl ?_
      refine wpR_val (v := (Value.bool false)) (w' := w18) rfl rfl rfl (x_pickF (v := (Value.bool false)) rfl rfl hc20 rfl) ?_
      refine wpR_nil ?_
      exact ⟨false, ⟨rfl, e1, e2, e3, e5, e7, trivial⟩, h⟩
  clear h
  rintro c24 ρ w22 ⟨e48, e1, e2, e3, e5, e7, -⟩ h
  replace h := hk c24 w22 h
  clear hk
  refine wpR_val (v := (Value.bool c24)) (w' := w22) rfl rfl rfl (x_assign (v := (Value.bool c24)) rfl e48) ?_
  refine wpR_nil ?_
  refine wpC_seq ?_
  refine wpC_cut (fun ρ => ρ 1 = (Sl.v (⟨some ⟨b4, 0, none⟩, 3, 3⟩ : Sl)) ∧ ρ 2 = (Value.int .i64 r6.1) ∧ ρ 3 = (Value.bool r6.2) ∧ ρ 5 = (Value.bool r8.2) ∧ ρ 7 = (Value.bool r10.2) ∧ ρ 9 = (Value.bool c24) ∧ True) ⟨e1, e2, e3, e5, e7, rfl, trivial⟩ ?_
  rintro ρ ⟨e1, e2, e3, e5, e7, e9, -⟩
  obtain ⟨J26, h, hk⟩ := h
  refine wpC_drawJ (by kernel_rfl) (fun (x : Bool) ρ => ρ 0 = (Value.bool x) ∧ True) J26 ?_ ?_
  · clear hk
    unfold tk at h
    generalize w22.drew = w23 at h ⊢
    refine wpD_take (v := (Value.bool c24)) 0 (fun _ => True) rfl (by kernel_rfl) (by kernel_rfl) (by kernel_rfl) rfl rfl rfl trivial (fun w _ => (x_move (v := (Value.bool c24)) rfl e9)) ?_
    refine wpD_take (v := (Value.bool c24)) 1 (fun _ => True) rfl (by kernel_rfl) (by kernel_rfl) (by kernel_rfl) rfl rfl rfl trivial (fun w _ => (x_move (v := (Value.bool c24)) rfl rfl)) ?_
    rcases Bool.eq_false_or_eq_true (c24) with hc27 | hc27
    · replace h := h.1 hc27
      refine wpD_take (v := (Value.bool r6.2)) 2 (fun _ => True) rfl (by kernel_rfl) (by kernel_rfl) (by kernel_rfl) (wantG rfl rfl rfl hc27) rfl rfl trivial (fun w _ => (x_move (v := (Value.bool r6.2)) rfl e3)) ?_
      refine wpD_take (v := (Value.bool r6.2)) 3 (fun _ => True) rfl (by kernel_rfl) (by kernel_rfl) (by kernel_rfl) rfl rfl rfl trivial (fun w _ => (x_pickT (v := (Value.bool r6.2)) rfl rfl hc27 rfl)) ?_
      refine wpD_take (v := (Value.bool r6.2)) 4 (fun _ => True) rfl (by kernel_rfl) (by kernel_rfl) (by kernel_rfl) rfl rfl rfl trivial (fun w _ => (x_move (v := (Value.bool r6.2)) rfl rfl)) ?_
      rcases Bool.eq_false_or_eq_true (r6.2) with hc28 | hc28
      · replace h := h.1 hc28
        refine wpD_take (v := (Value.int .i64 r6.1)) 5 (fun _ => True) rfl (by kernel_rfl) (by kernel_rfl) (by kernel_rfl) (wantG rfl rfl rfl hc28) rfl rfl trivial (fun w _ => (x_move (v := (Value.int .i64 r6.1)) rfl e2)) ?_
        refine wpD_take (v := (Value.bool (decide (r6.1 = 1)))) 6 (fun _ => True) rfl (by kernel_rfl) (by kernel_rfl) (by kernel_rfl) (wantG rfl rfl rfl hc28) rfl rfl trivial (fun w _ => (x_eql rfl rfl rfl)) ?_
        refine wpD_take (v := (Value.bool (decide (r6.1 = 1)))) 7 (fun _ => True) rfl (by kernel_rfl) (by kernel_rfl) (by kernel_rfl) rfl rfl rfl trivial (fun w _ => (x_pickT (v := (Value.bool (decide (r6.1 = 1)))) rfl rfl hc28 rfl)) ?_
        refine wpD_take (v := (Value.bool (decide (r6.1 = 1)))) 8 (fun _ => True) rfl (by kernel_rfl) (by kernel_rfl) (by kernel_rfl) rfl rfl rfl trivial (fun w _ => (x_move (v := (Value.bool (decide (r6.1 = 1)))) rfl rfl)) ?_
        rcases Bool.eq_false_or_eq_true (decide (r6.1 = 1)) with hc29 | hc29
        · replace h := h.1 hc29
          refine wpD_take (v := (Value.bool r8.2)) 9 (fun _ => True) rfl (by kernel_rfl) (by kernel_rfl) (by kernel_rfl) (wantG rfl rfl rfl hc29) rfl rfl trivial (fun w _ => (x_move (v := (Value.bool r8.2)) rfl e5)) ?_
          refine wpD_take (v := (Value.bool (!r8.2))) 10 (fun _ => True) rfl (by kernel_rfl) (by kernel_rfl) (by kernel_rfl) (wantG rfl rfl rfl hc29) rfl rfl trivial (fun w _ => (x_not rfl rfl)) ?_
          refine wpD_take (v := (Value.bool (!r8.2))) 11 (fun _ => True) rfl (by kernel_rfl) (by kernel_rfl) (by kernel_rfl) rfl rfl rfl trivial (fun w _ => (x_pickT (v := (Value.bool (!r8.2))) rfl rfl hc29 rfl)) ?_
          refine wpD_take (v := (Value.bool (!r8.2))) 12 (fun _ => True) rfl (by kernel_rfl) (by kernel_rfl) (by kernel_rfl) rfl rfl rfl trivial (fun w _ => (x_move (v := (Value.bool (!r8.2))) rfl rfl)) ?_
          rcases Bool.eq_false_or_eq_true (!r8.2) with hc30 | hc30
          · replace h := h.1 hc30
            refine wpD_take (v := (Value.bool r10.2)) 13 (fun _ => True) rfl (by kernel_rfl) (by kernel_rfl) (by kernel_rfl) (wantG rfl rfl rfl hc30) rfl rfl trivial (fun w _ => (x_move (v := (Value.bool r10.2)) rfl e7)) ?_
            refine wpD_take (v := (Value.bool (!r10.2))) 14 (fun _ => True) rfl (by kernel_rfl) (by kernel_rfl) (by kernel_rfl) (wantG rfl rfl rfl hc30) rfl rfl trivial (fun w _ => (x_not rfl rfl)) ?_
            refine wpD_take (v := (Value.bool (!r10.2))) 15 (fun _ => True) rfl (by kernel_rfl) (by kernel_rfl) (by kernel_rfl) rfl rfl rfl trivial (fun w _ => (x_pickT (v := (Value.bool (!r10.2))) rfl rfl hc30 rfl)) ?_
            refine wpD_take (v := (Value.bool (!r10.2))) 16 (fun _ => True) rfl (by kernel_rfl) (by kernel_rfl) (by kernel_rfl) rfl rfl rfl trivial (fun w _ => (x_move (v := (Value.bool (!r10.2))) rfl rfl)) ?_
            rcases Bool.eq_false_or_eq_true (!r10.2) with hc31 | hc31
            · replace h := h.1 hc31
              refine wpD_take (v := (Sl.v (⟨some ⟨b4, 0, none⟩, 3, 3⟩ : Sl))) 17 (fun _ => True) rfl (by kernel_rfl) (by kernel_rfl) (by kernel_rfl) (wantG rfl rfl rfl hc31) rfl rfl trivial (fun w _ => (x_move (v := (Sl.v (⟨some ⟨b4, 0, none⟩, 3, 3⟩ : Sl))) rfl e1)) ?_
              obtain ⟨q32, z32, r32, h⟩ := h
              generalize hp32 : z32.add ((0 : Int).toNat * 5) = p32 at h
              refine wpD_take (v := (Value.pointer (some p32))) 18 (fun _ => True) rfl (by kernel_rfl) (by kernel_rfl) (by kernel_rfl) (wantG rfl rfl rfl hc31) rfl rfl trivial (fun w _ => ((x_indexAddr (s := (⟨some ⟨b4, 0, none⟩, 3, 3⟩ : Sl)) rfl rfl rfl ES_22 q32 r32).trans (by rw [hp32]))) ?_
              obtain ⟨x33, q33, h⟩ := h
              obtain ⟨x34, q34, h⟩ := h
              obtain ⟨x35, q35, h⟩ := h
              obtain ⟨x36, q36, h⟩ := h
              obtain ⟨x37, q37, h⟩ := h
              refine wpD_take (v := (Value.agg #[(Value.int .i64 x33), (Value.int .i64 x34), (Value.int .i64 x35), (Value.int .i64 x36), (Value.int .i64 x37)])) 19 (fun w => w.cell? (p32.add 0) = some (Value.int .i64 x33) ∧ w.cell? (p32.add 1) = some (Value.int .i64 x34) ∧ w.cell? (p32.add 2) = some (Value.int .i64 x35) ∧ w.cell? (p32.add 3) = some (Value.int .i64 x36) ∧ w.cell? (p32.add 4) = some (Value.int .i64 x37)) rfl (by kernel_rfl) (by kernel_rfl) (by kernel_rfl) (wantG rfl rfl rfl hc31) rfl rfl ⟨q33, q34, q35, q36, q37⟩ (fun w ⟨q33, q34, q35, q36, q37⟩ => (x_loadN [(Value.int .i64 x33), (Value.int .i64 x34), (Value.int .i64 x35), (Value.int .i64 x36), (Value.int .i64 x37)] rfl rfl SH_30 (CellsAt.out (CellsAt.cons q33 (CellsAt.cons q34 (CellsAt.cons q35 (CellsAt.cons q36 (CellsAt.cons q37 CellsAt.nil)))))))) ?_
              refine wpD_take (v := (Sl.v (⟨some ⟨b4, 0, none⟩, 3, 3⟩ : Sl))) 20 (fun _ => True) rfl (by kernel_rfl) (by kernel_rfl) (by kernel_rfl) (wantG rfl rfl rfl hc31) rfl rfl trivial (fun w _ => (x_move (v := (Sl.v (⟨some ⟨b4, 0, none⟩, 3, 3⟩ : Sl))) rfl e1)) ?_
              obtain ⟨q38, z38, r38, h⟩ := h
              generalize hp38 : z38.add ((2 : Int).toNat * 5) = p38 at h
              refine wpD_take (v := (Value.pointer (some p38))) 21 (fun _ => True) rfl (by kernel_rfl) (by kernel_rfl) (by kernel_rfl) (wantG rfl rfl rfl hc31) rfl rfl trivial (fun w _ => ((x_indexAddr (s := (⟨some ⟨b4, 0, none⟩, 3, 3⟩ : Sl)) rfl rfl rfl ES_22 q38 r38).trans (by rw [hp38]))) ?_
              obtain ⟨x39, q39, h⟩ := h
              obtain ⟨x40, q40, h⟩ := h
              obtain ⟨x41, q41, h⟩ := h
              obtain ⟨x42, q42, h⟩ := h
              obtain ⟨x43, q43, h⟩ := h
              refine wpD_take (v := (Value.agg #[(Value.int .i64 x39), (Value.int .i64 x40), (Value.int .i64 x41), (Value.int .i64 x42), (Value.int .i64 x43)])) 22 (fun w => w.cell? (p38.add 0) = some (Value.int .i64 x39) ∧ w.cell? (p38.add 1) = some (Value.int .i64 x40) ∧ w.cell? (p38.add 2) = some (Value.int .i64 x41) ∧ w.cell? (p38.add 3) = some (Value.int .i64 x42) ∧ w.cell? (p38.add 4) = some (Value.int .i64 x43)) rfl (by kernel_rfl) (by kernel_rfl) (by kernel_rfl) (wantG rfl rfl rfl hc31) rfl rfl ⟨q39, q40, q41, q42, q43⟩ (fun w ⟨q39, q40, q41, q42, q43⟩ => (x_loadN [(Value.int .i64 x39), (Value.int .i64 x40), (Value.int .i64 x41), (Value.int .i64 x42), (Value.int .i64 x43)] rfl rfl SH_30 (CellsAt.out (CellsAt.cons q39 (CellsAt.cons q40 (CellsAt.cons q41 (CellsAt.cons q42 (CellsAt.cons q43 CellsAt.nil)))))))) ?_
              refine wpD_all (rs := [23]) (by kernel_rfl) (by simp) (allD_cons ?_ allD_nil)
              refine stepD_enterL (L' := [(21, fun _ => True), (20, fun _ => True), (18, fun _ => True), (17, fun _ => True), (15, fun _ => True), (14, fun _ => True), (13, fun _ => True), (12, fun _ => True), (11, fun _ => True), (10, fun _ => True), (9, fun _ => True), (8, fun _ => True), (7, fun _ => True), (6, fun _ => True), (5, fun _ => True), (4, fun _ => True), (3, fun _ => True), (2, fun _ => True), (1, fun _ => True), (0, fun _ => True)]) rfl (wantG rfl rfl rfl hc31) rfl rfl (x_call (vs := [(Value.agg #[(Value.int .i64 x33), (Value.int .i64 x34), (Value.int .i64 x35), (Value.int .i64 x36), (Value.int .i64 x37)]), (Value.agg #[(Value.int .i64 x39), (Value.int .i64 x40), (Value.int .i64 x41), (Value.int .i64 x42), (Value.int .i64 x43)])]) rfl rfl (mapl_cons rfl (mapl_cons rfl mapl_nil)) Try.func13 NN_13 NB_13) (by kernel_rfl) (Calls.mono h ?_)
              rintro _ w24 ⟨r44, rfl, h⟩
              refine ⟨_, rfl, (held_cons trivial (held_cons trivial (held_cons trivial (held_cons trivial (held_cons trivial (held_cons trivial (held_cons trivial (held_cons trivial (held_cons trivial (held_cons trivial (held_cons trivial (held_cons trivial (held_cons trivial (held_cons trivial (held_cons trivial (held_cons trivial (held_cons trivial (held_cons trivial (held_cons trivial (held_cons trivial held_nil)))))))))))))))))))), ?_⟩
              refine wpD_take (v := (Value.bool (decide (r44 = 2)))) 24 (fun _ => True) rfl (by kernel_rfl) (by kernel_rfl) (by kernel_rfl) (wantG rfl rfl rfl hc31) rfl rfl trivial (fun w _ => (x_eql rfl rfl rfl)) ?_
              refine wpD_take (v := (Value.bool (decide (r44 = 2)))) 25 (fun _ => True) rfl (by kernel_rfl) (by kernel_rfl) (by kernel_rfl) rfl rfl rfl trivial (fun w _ => (x_pickT (v := (Value.bool (decide (r44 = 2)))) rfl rfl hc31 rfl)) ?_
              refine wpD_take (v := (Value.bool (decide (r44 = 2)))) 26 (fun _ => True) rfl (by kernel_rfl) (by kernel_rfl) (by kernel_rfl) rfl rfl rfl trivial (fun w _ => (x_assign (v := (Value.bool (decide (r44 = 2)))) rfl rfl)) ?_
              exact wpD_done (by kernel_rfl) ⟨decide (r44 = 2), ⟨rfl, trivial⟩, h⟩
            · replace h := h.2 hc31
              refine wpD_pass 17 rfl (by kernel_rfl) (by kernel_rfl) (by kernel_rfl) (wantN rfl rfl rfl hc31) rfl rfl ?_
              refine wpD_pass 18 rfl (by kernel_rfl) (by kernel_rfl) (by kernel_rfl) (wantN rfl rfl rfl hc31) rfl rfl ?_
              refine wpD_pass 19 rfl (by kernel_rfl) (by kernel_rfl) (by kernel_rfl) (wantN rfl rfl rfl hc31) rfl rfl ?_
              refine wpD_pass 20 rfl (by kernel_rfl) (by kernel_rfl) (by kernel_rfl) (wantN rfl rfl rfl hc31) rfl rfl ?_
              refine wpD_pass 21 rfl (by kernel_rfl) (by kernel_rfl) (by kernel_rfl) (wantN rfl rfl rfl hc31) rfl rfl ?_
              refine wpD_pass 22 rfl (by kernel_rfl) (by kernel_rfl) (by kernel_rfl) (wantN rfl rfl rfl hc31) rfl rfl ?_
              refine wpD_pass 23 rfl (by kernel_rfl) (by kernel_rfl) (by kernel_rfl) (wantN rfl rfl rfl hc31) rfl rfl ?_
              refine wpD_pass 24 rfl (by kernel_rfl) (by kernel_rfl) (by kernel_rfl) (wantN rfl rfl rfl hc31) rfl rfl ?_
              refine wpD_take (v := (Value.bool false)) 25 (fun _ => True) rfl (by kernel_rfl) (by kernel_rfl) (by kernel_rfl) rfl rfl rfl trivial (fun w _ => (x_pickF (v := (Value.bool false)) rfl rfl hc31 rfl)) ?_
              refine wpD_take (v := (Value.bool false)) 26 (fun _ => True) rfl (by kernel_rfl) (by kernel_rfl) (by kernel_rfl) rfl rfl rfl trivial (fun w _ => (x_assign (v := (Value.bool false)) rfl rfl)) ?_
              exact wpD_done (by kernel_rfl) ⟨false, ⟨rfl, trivial⟩, h⟩
          · replace h := h.2 hc30
            refine wpD_pass 13 rfl (by kernel_rfl) (by kernel_rfl) (by kernel_rfl) (wantN rfl rfl rfl hc30) rfl rfl ?_
            refine wpD_pass 14 rfl (by kernel_rfl) (by kernel_rfl) (by kernel_rfl) (wantN rfl rfl rfl hc30) rfl rfl ?_
            refine wpD_take (v := (Value.bool false)) 15 (fun _ => True) rfl (by kernel_rfl) (by kernel_rfl) (by kernel_rfl) rfl rfl rfl trivial (fun w _ => (x_pickF (v := (Value.bool false)) rfl rfl hc30 rfl)) ?_
            refine wpD_take (v := (Value.bool false)) 16 (fun _ => True) rfl (by kernel_rfl) (by kernel_rfl) (by kernel_rfl) rfl rfl rfl trivial (fun w _ => (x_move (v := (Value.bool false)) rfl rfl)) ?_
            refine wpD_pass 17 rfl (by kernel_rfl) (by kernel_rfl) (by kernel_rfl) (wantN rfl rfl rfl rfl) rfl rfl ?_
            refine wpD_pass 18 rfl (by kernel_rfl) (by kernel_rfl) (by kernel_rfl) (wantN rfl rfl rfl rfl) rfl rfl ?_
            refine wpD_pass 19 rfl (by kernel_rfl) (by kernel_rfl) (by kernel_rfl) (wantN rfl rfl rfl rfl) rfl rfl ?_
            refine wpD_pass 20 rfl (by kernel_rfl) (by kernel_rfl) (by kernel_rfl) (wantN rfl rfl rfl rfl) rfl rfl ?_
            refine wpD_pass 21 rfl (by kernel_rfl) (by kernel_rfl) (by kernel_rfl) (wantN rfl rfl rfl rfl) rfl rfl ?_
            refine wpD_pass 22 rfl (by kernel_rfl) (by kernel_rfl) (by kernel_rfl) (wantN rfl rfl rfl rfl) rfl rfl ?_
            refine wpD_pass 23 rfl (by kernel_rfl) (by kernel_rfl) (by kernel_rfl) (wantN rfl rfl rfl rfl) rfl rfl ?_
            refine wpD_pass 24 rfl (by kernel_rfl) (by kernel_rfl) (by kernel_rfl) (wantN rfl rfl rfl rfl) rfl rfl ?_
            refine wpD_take (v := (Value.bool false)) 25 (fun _ => True) rfl (by kernel_rfl) (by kernel_rfl) (by kernel_rfl) rfl rfl rfl trivial (fun w _ => (x_pickF (v := (Value.bool false)) rfl rfl rfl rfl)) ?_
            refine wpD_take (v := (Value.bool false)) 26 (fun _ => True) rfl (by kernel_rfl) (by kernel_rfl) (by kernel_rfl) rfl rfl rfl trivial (fun w _ => (x_assign (v := (Value.bool false)) rfl rfl)) ?_
            exact wpD_done (by kernel_rfl) ⟨false, ⟨rfl, trivial⟩, h⟩
        · replace h := h.2 hc29
          refine wpD_pass 9 rfl (by kernel_rfl) (by kernel_rfl) (by kernel_rfl) (wantN rfl rfl rfl hc29) rfl rfl ?_
          refine wpD_pass 10 rfl (by kernel_rfl) (by kernel_rfl) (by kernel_rfl) (wantN rfl rfl rfl hc29) rfl rfl ?_
          refine wpD_take (v := (Value.bool false)) 11 (fun _ => True) rfl (by kernel_rfl) (by kernel_rfl) (by kernel_rfl) rfl rfl rfl trivial (fun w _ => (x_pickF (v := (Value.bool false)) rfl rfl hc29 rfl)) ?_
          refine wpD_take (v := (Value.bool false)) 12 (fun _ => True) rfl (by kernel_rfl) (by kernel_rfl) (by kernel_rfl) rfl rfl rfl trivial (fun w _ => (x_move (v := (Value.bool false)) rfl rfl)) ?_
          refine wpD_pass 13 rfl (by kernel_rfl) (by kernel_rfl) (by kernel_rfl) (wantN rfl rfl rfl rfl) rfl rfl ?_
          refine wpD_pass 14 rfl (by kernel_rfl) (by kernel_rfl) (by kernel_rfl) (wantN rfl rfl rfl rfl) rfl rfl ?_
          refine wpD_take (v := (Value.bool false)) 15 (fun _ => True) rfl (by kernel_rfl) (by kernel_rfl) (by kernel_rfl) rfl rfl rfl trivial (fun w _ => (x_pickF (v := (Value.bool false)) rfl rfl rfl rfl)) ?_
          refine wpD_take (v := (Value.bool false)) 16 (fun _ => True) rfl (by kernel_rfl) (by kernel_rfl) (by kernel_rfl) rfl rfl rfl trivial (fun w _ => (x_move (v := (Value.bool false)) rfl rfl)) ?_
          refine wpD_pass 17 rfl (by kernel_rfl) (by kernel_rfl) (by kernel_rfl) (wantN rfl rfl rfl rfl) rfl rfl ?_
          refine wpD_pass 18 rfl (by kernel_rfl) (by kernel_rfl) (by kernel_rfl) (wantN rfl rfl rfl rfl) rfl rfl ?_
          refine wpD_pass 19 rfl (by kernel_rfl) (by kernel_rfl) (by kernel_rfl) (wantN rfl rfl rfl rfl) rfl rfl ?_
          refine wpD_pass 20 rfl (by kernel_rfl) (by kernel_rfl) (by kernel_rfl) (wantN rfl rfl rfl rfl) rfl rfl ?_
          refine wpD_pass 21 rfl (by kernel_rfl) (by kernel_rfl) (by kernel_rfl) (wantN rfl rfl rfl rfl) rfl rfl ?_
          refine wpD_pass 22 rfl (by kernel_rfl) (by kernel_rfl) (by kernel_rfl) (wantN rfl rfl rfl rfl) rfl rfl ?_
          refine wpD_pass 23 rfl (by kernel_rfl) (by kernel_rfl) (by kernel_rfl) (wantN rfl rfl rfl rfl) rfl rfl ?_
          refine wpD_pass 24 rfl (by kernel_rfl) (by kernel_rfl) (by kernel_rfl) (wantN rfl rfl rfl rfl) rfl rfl ?_
          refine wpD_take (v := (Value.bool false)) 25 (fun _ => True) rfl (by kernel_rfl) (by kernel_rfl) (by kernel_rfl) rfl rfl rfl trivial (fun w _ => (x_pickF (v := (Value.bool false)) rfl rfl rfl rfl)) ?_
          refine wpD_take (v := (Value.bool false)) 26 (fun _ => True) rfl (by kernel_rfl) (by kernel_rfl) (by kernel_rfl) rfl rfl rfl trivial (fun w _ => (x_assign (v := (Value.bool false)) rfl rfl)) ?_
          exact wpD_done (by kernel_rfl) ⟨false, ⟨rfl, trivial⟩, h⟩
      · replace h := h.2 hc28
        refine wpD_pass 5 rfl (by kernel_rfl) (by kernel_rfl) (by kernel_rfl) (wantN rfl rfl rfl hc28) rfl rfl ?_
        refine wpD_pass 6 rfl (by kernel_rfl) (by kernel_rfl) (by kernel_rfl) (wantN rfl rfl rfl hc28) rfl rfl ?_
        refine wpD_take (v := (Value.bool false)) 7 (fun _ => True) rfl (by kernel_rfl) (by kernel_rfl) (by kernel_rfl) rfl rfl rfl trivial (fun w _ => (x_pickF (v := (Value.bool false)) rfl rfl hc28 rfl)) ?_
        refine wpD_take (v := (Value.bool false)) 8 (fun _ => True) rfl (by kernel_rfl) (by kernel_rfl) (by kernel_rfl) rfl rfl rfl trivial (fun w _ => (x_move (v := (Value.bool false)) rfl rfl)) ?_
        refine wpD_pass 9 rfl (by kernel_rfl) (by kernel_rfl) (by kernel_rfl) (wantN rfl rfl rfl rfl) rfl rfl ?_
        refine wpD_pass 10 rfl (by kernel_rfl) (by kernel_rfl) (by kernel_rfl) (wantN rfl rfl rfl rfl) rfl rfl ?_
        refine wpD_take (v := (Value.bool false)) 11 (fun _ => True) rfl (by kernel_rfl) (by kernel_rfl) (by kernel_rfl) rfl rfl rfl trivial (fun w _ => (x_pickF (v := (Value.bool false)) rfl rfl rfl rfl)) ?_
        refine wpD_take (v := (Value.bool false)) 12 (fun _ => True) rfl (by kernel_rfl) (by kernel_rfl) (by kernel_rfl) rfl rfl rfl trivial (fun w _ => (x_move (v := (Value.bool false)) rfl rfl)) ?_
        refine wpD_pass 13 rfl (by kernel_rfl) (by kernel_rfl) (by kernel_rfl) (wantN rfl rfl rfl rfl) rfl rfl ?_
        refine wpD_pass 14 rfl (by kernel_rfl) (by kernel_rfl) (by kernel_rfl) (wantN rfl rfl rfl rfl) rfl rfl ?_
        refine wpD_take (v := (Value.bool false)) 15 (fun _ => True) rfl (by kernel_rfl) (by kernel_rfl) (by kernel_rfl) rfl rfl rfl trivial (fun w _ => (x_pickF (v := (Value.bool false)) rfl rfl rfl rfl)) ?_
        refine wpD_take (v := (Value.bool false)) 16 (fun _ => True) rfl (by kernel_rfl) (by kernel_rfl) (by kernel_rfl) rfl rfl rfl trivial (fun w _ => (x_move (v := (Value.bool false)) rfl rfl)) ?_
        refine wpD_pass 17 rfl (by kernel_rfl) (by kernel_rfl) (by kernel_rfl) (wantN rfl rfl rfl rfl) rfl rfl ?_
        refine wpD_pass 18 rfl (by kernel_rfl) (by kernel_rfl) (by kernel_rfl) (wantN rfl rfl rfl rfl) rfl rfl ?_
        refine wpD_pass 19 rfl (by kernel_rfl) (by kernel_rfl) (by kernel_rfl) (wantN rfl rfl rfl rfl) rfl rfl ?_
        refine wpD_pass 20 rfl (by kernel_rfl) (by kernel_rfl) (by kernel_rfl) (wantN rfl rfl rfl rfl) rfl rfl ?_
        refine wpD_pass 21 rfl (by kernel_rfl) (by kernel_rfl) (by kernel_rfl) (wantN rfl rfl rfl rfl) rfl rfl ?_
        refine wpD_pass 22 rfl (by kernel_rfl) (by kernel_rfl) (by kernel_rfl) (wantN rfl rfl rfl rfl) rfl rfl ?_
        refine wpD_pass 23 rfl (by kernel_rfl) (by kernel_rfl) (by kernel_rfl) (wantN rfl rfl rfl rfl) rfl rfl ?_
        refine wpD_pass 24 rfl (by kernel_rfl) (by kernel_rfl) (by kernel_rfl) (wantN rfl rfl rfl rfl) rfl rfl ?_
        refine wpD_take (v := (Value.bool false)) 25 (fun _ => True) rfl (by kernel_rfl) (by kernel_rfl) (by kernel_rfl) rfl rfl rfl trivial (fun w _ => (x_pickF (v := (Value.bool false)) rfl rfl rfl rfl)) ?_
        refine wpD_take (v := (Value.bool false)) 26 (fun _ => True) rfl (by kernel_rfl) (by kernel_rfl) (by kernel_rfl) rfl rfl rfl trivial (fun w _ => (x_assign (v := (Value.bool false)) rfl rfl)) ?_
        exact wpD_done (by kernel_rfl) ⟨false, ⟨rfl, trivial⟩, h⟩
    · replace h := h.2 hc27
      refine wpD_pass 2 rfl (by kernel_rfl) (by kernel_rfl) (by kernel_rfl) (wantN rfl rfl rfl hc27) rfl rfl ?_
      refine wpD_take (v := (Value.bool false)) 3 (fun _ => True) rfl (by kernel_rfl) (by kernel_rfl) (by kernel_rfl) rfl rfl rfl trivial (fun w _ => (x_pickF (v := (Value.bool false)) rfl rfl hc27 rfl)) ?_
      refine wpD_take (v := (Value.bool false)) 4 (fun _ => True) rfl (by kernel_rfl) (by kernel_rfl) (by kernel_rfl) rfl rfl rfl trivial (fun w _ => (x_move (v := (Value.bool false)) rfl rfl)) ?_
      refine wpD_pass 5 rfl (by kernel_rfl) (by kernel_rfl) (by kernel_rfl) (wantN rfl rfl rfl rfl) rfl rfl ?_
      refine wpD_pass 6 rfl (by kernel_rfl) (by kernel_rfl) (by kernel_rfl) (wantN rfl rfl rfl rfl) rfl rfl ?_
      refine wpD_take (v := (Value.bool false)) 7 (fun _ => True) rfl (by kernel_rfl) (by kernel_rfl) (by kernel_rfl) rfl rfl rfl trivial (fun w _ => (x_pickF (v := (Value.bool false)) rfl rfl rfl rfl)) ?_
      refine wpD_take (v := (Value.bool false)) 8 (fun _ => True) rfl (by kernel_rfl) (by kernel_rfl) (by kernel_rfl) rfl rfl rfl trivial (fun w _ => (x_move (v := (Value.bool false)) rfl rfl)) ?_
      refine wpD_pass 9 rfl (by kernel_rfl) (by kernel_rfl) (by kernel_rfl) (wantN rfl rfl rfl rfl) rfl rfl ?_
      refine wpD_pass 10 rfl (by kernel_rfl) (by kernel_rfl) (by kernel_rfl) (wantN rfl rfl rfl rfl) rfl rfl ?_
      refine wpD_take (v := (Value.bool false)) 11 (fun _ => True) rfl (by kernel_rfl) (by kernel_rfl) (by kernel_rfl) rfl rfl rfl trivial (fun w _ => (x_pickF (v := (Value.bool false)) rfl rfl rfl rfl)) ?_
      refine wpD_take (v := (Value.bool false)) 12 (fun _ => True) rfl (by kernel_rfl) (by kernel_rfl) (by kernel_rfl) rfl rfl rfl trivial (fun w _ => (x_move (v := (Value.bool false)) rfl rfl)) ?_
      refine wpD_pass 13 rfl (by kernel_rfl) (by kernel_rfl) (by kernel_rfl) (wantN rfl rfl rfl rfl) rfl rfl ?_
      refine wpD_pass 14 rfl (by kernel_rfl) (by kernel_rfl) (by kernel_rfl) (wantN rfl rfl rfl rfl) rfl rfl ?_
      refine wpD_take (v := (Value.bool false)) 15 (fun _ => True) rfl (by kernel_rfl) (by kernel_rfl) (by kernel_rfl) rfl rfl rfl trivial (fun w _ => (x_pickF (v := (Value.bool false)) rfl rfl rfl rfl)) ?_
      refine wpD_take (v := (Value.bool false)) 16 (fun _ => True) rfl (by kernel_rfl) (by kernel_rfl) (by kernel_rfl) rfl rfl rfl trivial (fun w _ => (x_move (v := (Value.bool false)) rfl rfl)) ?_
      refine wpD_pass 17 rfl (by kernel_rfl) (by kernel_rfl) (by kernel_rfl) (wantN rfl rfl rfl rfl) rfl rfl ?_
      refine wpD_pass 18 rfl (by kernel_rfl) (by kernel_rfl) (by kernel_rfl) (wantN rfl rfl rfl rfl) rfl rfl ?_
      refine wpD_pass 19 rfl (by kernel_rfl) (by kernel_rfl) (by kernel_rfl) (wantN rfl rfl rfl rfl) rfl rfl ?_
      refine wpD_pass 20 rfl (by kernel_rfl) (by kernel_rfl) (by kernel_rfl) (wantN rfl rfl rfl rfl) rfl rfl ?_
      refine wpD_pass 21 rfl (by kernel_rfl) (by kernel_rfl) (by kernel_rfl) (wantN rfl rfl rfl rfl) rfl rfl ?_
      refine wpD_pass 22 rfl (by kernel_rfl) (by kernel_rfl) (by kernel_rfl) (wantN rfl rfl rfl rfl) rfl rfl ?_
      refine wpD_pass 23 rfl (by kernel_rfl) (by kernel_rfl) (by kernel_rfl) (wantN rfl rfl rfl rfl) rfl rfl ?_
      refine wpD_pass 24 rfl (by kernel_rfl) (by kernel_rfl) (by kernel_rfl) (wantN rfl rfl rfl rfl) rfl rfl ?_
      refine wpD_take (v := (Value.bool false)) 25 (fun _ => True) rfl (by kernel_rfl) (by kernel_rfl) (by kernel_rfl) rfl rfl rfl trivial (fun w _ => (x_pickF (v := (Value.bool false)) rfl rfl rfl rfl)) ?_
      refine wpD_take (v := (Value.bool false)) 26 (fun _ => True) rfl (by kernel_rfl) (by kernel_rfl) (by kernel_rfl) rfl rfl rfl trivial (fun w _ => (x_assign (v := (Value.bool false)) rfl rfl)) ?_
      exact wpD_done (by kernel_rfl) ⟨false, ⟨rfl, trivial⟩, h⟩
  clear h
  rintro l45 ρ w25 ⟨e0, -⟩ h
  replace h := hk l45 w25 h
  clear hk
  refine wpC_ret ?_
  exact ⟨.inl rfl, fun a ha => ⟨_, results_rep1 rfl ha e0, l45, rfl, h⟩⟩

/-- linguaref36.Ints -/
def F8 (p0 : Sl) (p1 : Sl) (w0 : World) (K : Bool → World → Prop) : Prop :=
  cnd (!decide ((p0.len : Int) = (p1.len : Int)))
    (
    K false w0
    )
    (
    lp (fun (next2 : Int → World → Prop) l2 w1 =>
      cnd (decide (l2 < (p0.len : Int)))
        (
        jn (fun (J5 : Bool → World → Prop) => tk w1 fun w2 =>
          ix p0 l2 1 fun p6 =>
          ld (Value.int .i64) p6 w2 fun x7 =>
          ix p1 l2 1 fun p8 =>
          ld (Value.int .i64) p8 w2 fun x9 =>
          J5 (!decide (x7 = x9)) w2
        )
        fun l10 w3 =>
        cnd (l10)
          (
          K false w3
          )
          (
          next2 (IntKind.i64.wrap (l2 + 1)) w3
          )
        )
        (
        K true w1
        )
    ) 0 w0
    )
set_option maxRecDepth 100000 in
theorem D8 (p0 : Sl) (p1 : Sl) (w0 : World) (K : Bool → World → Prop) (h : F8 p0 p1 w0 K) : callC Try.prog 8 #[(Sl.v p0), (Sl.v p1)] (fun (r : Bool) => (Value.bool r)) w0 K := by
  unfold F8 at h
  refine calls_of_wpC Try.func8 rfl 26 rfl (by simp) ?_
  intro ρ hρ
  have e0 : ρ 0 = (Sl.v p0) := hρ 0
  have e1 : ρ 1 = (Sl.v p1) := hρ 1
  clear hρ
  refine wpC_seq ?_
  refine wpC_region ?_
  refine wpR_val (v := (Value.bool false)) (w' := w0) rfl rfl rfl (x_assign (v := (Value.bool false)) rfl rfl) ?_
  refine wpR_nil ?_
  refine wpC_seq ?_
  refine wpC_seq ?_
  refine wpC_cut (fun ρ => ρ 0 = (Sl.v p0) ∧ ρ 1 = (Sl.v p1) ∧ True) ⟨e0, e1, trivial⟩ ?_
  rintro ρ ⟨e0, e1, -⟩
  refine wpC_region ?_
  refine wpR_val (v := (Sl.v p0)) (w' := w0) rfl rfl rfl (x_move (v := (Sl.v p0)) rfl e0) ?_
  refine wpR_val (v := (Value.int .i64 (p0.len : Int))) (w' := w0) rfl rfl rfl (x_lenS (s := p0) rfl rfl isSliceT_25) ?_
  refine wpR_val (v := (Sl.v p1)) (w' := w0) rfl rfl rfl (x_move (v := (Sl.v p1)) rfl e1) ?_
  refine wpR_val (v := (Value.int .i64 (p1.len : Int))) (w' := w0) rfl rfl rfl (x_lenS (s := p1) rfl rfl isSliceT_25) ?_
  refine wpR_val (v := (Value.bool (!decide ((p0.len : Int) = (p1.len : Int))))) (w' := w0) rfl rfl rfl (x_neq rfl rfl rfl) ?_
  refine wpR_nil ?_
  refine wpC_cond (b := !decide ((p0.len : Int) = (p1.len : Int))) rfl (fun hc1 => ?_) (fun hc1 => ?_)
  · replace h := h.1 hc1
    refine wpC_seq ?_
    refine wpC_cut (fun ρ => True) trivial ?_
    rintro ρ -
    refine wpC_region ?_
    refine wpR_val (v := (Value.bool false)) (w' := w0) rfl rfl rfl (x_assign (v := (Value.bool false)) rfl rfl) ?_
    refine wpR_nil ?_
    refine wpC_ret ?_
    exact ⟨.inl rfl, fun a ha => ⟨_, results_rep1 rfl ha rfl, false, rfl, h⟩⟩
  · replace h := h.2 hc1
    refine wpC_skip ?_
    refine wpC_seq ?_
    refine wpC_seq ?_
    refine wpC_cut (fun ρ => ρ 0 = (Sl.v p0) ∧ ρ 1 = (Sl.v p1) ∧ True) ⟨e0, e1, trivial⟩ ?_
    rintro ρ ⟨e0, e1, -⟩
    refine wpC_region ?_
    refine wpR_val (v := (Value.int .i64 0)) (w' := w0) rfl rfl rfl (x_assign (v := (Value.int .i64 0)) rfl rfl) ?_
    refine wpR_nil ?_
    refine wpC_block ?_
    obtain ⟨I2, μ2, hI2, hr2⟩ := h
    refine wpC_loop (fun (x : Int) ρ => ρ 5 = (Value.int .i64 x) ∧ ρ 0 = (Sl.v p0) ∧ ρ 1 = (Sl.v p1) ∧ True) I2 μ2 0 ⟨rfl, e0, e1, trivial⟩ hI2 ?_
    rintro l2 ρ w1 ⟨e5, e0, e1, -⟩ h
    replace h := hr2 l2 w1 h
    clear hr2 hI2
    refine wpC_seq ?_
    refine wpC_seq ?_
    refine wpC_region ?_
    refine wpR_val (v := (Value.int .i64 l2)) (w' := w1) rfl rfl rfl (x_move (v := (Value.int .i64 l2)) rfl e5) ?_
    refine wpR_val (v := (Sl.v p0)) (w' := w1) rfl rfl rfl (x_move (v := (Sl.v p0)) rfl e0) ?_
    refine wpR_val (v := (Value.int .i64 (p0.len : Int))) (w' := w1) rfl rfl rfl (x_lenS (s := p0) rfl rfl isSliceT_25) ?_
    refine wpR_val (v := (Value.bool (decide (l2 < (p0.len : Int))))) (w' := w1) rfl rfl rfl (x_lss rfl rfl rfl) ?_
    refine wpR_nil ?_
    refine wpC_cond (b := decide (l2 < (p0.len : Int))) rfl (fun hc3 => ?_) (fun hc3 => ?_)
    · replace h := h.1 hc3
      refine wpC_skip ?_
      refine wpC_seq ?_
      refine wpC_block ?_
      refine wpC_seq ?_
      refine wpC_cut (fun ρ => ρ 0 = (Sl.v p0) ∧ ρ 1 = (Sl.v p1) ∧ ρ 5 = (Value.int .i64 l2) ∧ True) ⟨e0, e1, e5, trivial⟩ ?_
      rintro ρ ⟨e0, e1, e5, -⟩
      obtain ⟨J5, h, hk⟩ := h
      refine wpC_drawJ (by kernel_rfl) (fun (x : Bool) ρ => ρ 25 = (Value.bool x) ∧ ρ 0 = (Sl.v p0) ∧ ρ 1 = (Sl.v p1) ∧ ρ 5 = (Value.int .i64 l2) ∧ True) J5 ?_ ?_
      · clear hk
        unfold tk at h
        generalize w1.drew = w2 at h ⊢
        refine wpD_take (v := (Sl.v p0)) 0 (fun _ => True) rfl (by kernel_rfl) (by kernel_rfl) (by kernel_rfl) rfl rfl rfl trivial (fun w _ => (x_move (v := (Sl.v p0)) rfl e0)) ?_
        refine wpD_take (v := (Value.int .i64 l2)) 1 (fun _ => True) rfl (by kernel_rfl) (by kernel_rfl) (by kernel_rfl) rfl rfl rfl trivial (fun w _ => (x_move (v := (Value.int .i64 l2)) rfl e5)) ?_
        obtain ⟨q6, z6, r6, h⟩ := h
        generalize hp6 : z6.add ((l2 : Int).toNat * 1) = p6 at h
        refine wpD_take (v := (Value.pointer (some p6))) 2 (fun _ => True) rfl (by kernel_rfl) (by kernel_rfl) (by kernel_rfl) rfl rfl rfl trivial (fun w _ => ((x_indexAddr (s := p0) rfl rfl rfl ES_25 q6 r6).trans (by rw [hp6]))) ?_
        obtain ⟨x7, q7, h⟩ := h
        refine wpD_take (v := (Value.int .i64 x7)) 3 (fun w => w.cell? p6 = some (Value.int .i64 x7)) rfl (by kernel_rfl) (by kernel_rfl) (by kernel_rfl) rfl rfl rfl q7 (fun w q7 => (x_load1 rfl rfl SH_3 q7)) ?_
        refine wpD_take (v := (Sl.v p1)) 4 (fun _ => True) rfl (by kernel_rfl) (by kernel_rfl) (by kernel_rfl) rfl rfl rfl trivial (fun w _ => (x_move (v := (Sl.v p1)) rfl e1)) ?_
        refine wpD_take (v := (Value.int .i64 l2)) 5 (fun _ => True) rfl (by kernel_rfl) (by kernel_rfl) (by kernel_rfl) rfl rfl rfl trivial (fun w _ => (x_move (v := (Value.int .i64 l2)) rfl e5)) ?_
        obtain ⟨q8, z8, r8, h⟩ := h
        generalize hp8 : z8.add ((l2 : Int).toNat * 1) = p8 at h
        refine wpD_take (v := (Value.pointer (some p8))) 6 (fun _ => True) rfl (by kernel_rfl) (by kernel_rfl) (by kernel_rfl) rfl rfl rfl trivial (fun w _ => ((x_indexAddr (s := p1) rfl rfl rfl ES_25 q8 r8).trans (by rw [hp8]))) ?_
        obtain ⟨x9, q9, h⟩ := h
        refine wpD_take (v := (Value.int .i64 x9)) 7 (fun w => w.cell? p8 = some (Value.int .i64 x9)) rfl (by kernel_rfl) (by kernel_rfl) (by kernel_rfl) rfl rfl rfl q9 (fun w q9 => (x_load1 rfl rfl SH_3 q9)) ?_
        refine wpD_take (v := (Value.bool (!decide (x7 = x9)))) 8 (fun _ => True) rfl (by kernel_rfl) (by kernel_rfl) (by kernel_rfl) rfl rfl rfl trivial (fun w _ => (x_neq rfl rfl rfl)) ?_
        exact wpD_done (by kernel_rfl) ⟨!decide (x7 = x9), ⟨rfl, e0, e1, e5, trivial⟩, h⟩
      clear h
      rintro l10 ρ w3 ⟨e25, e0, e1, e5, -⟩ h
      replace h := hk l10 w3 h
      clear hk
      refine wpC_cond (b := l10) e25 (fun hc11 => ?_) (fun hc11 => ?_)
      · replace h := h.1 hc11
        refine wpC_seq ?_
        refine wpC_region ?_
        refine wpR_val (v := (Value.bool false)) (w' := w3) rfl rfl rfl (x_assign (v := (Value.bool false)) rfl rfl) ?_
        refine wpR_nil ?_
        refine wpC_ret ?_
        exact ⟨.inl rfl, fun a ha => ⟨_, results_rep1 rfl ha rfl, false, rfl, h⟩⟩
      · replace h := h.2 hc11
        refine wpC_skip ?_
        refine wpC_region ?_
        refine wpR_val (v := (Value.int .i64 l2)) (w' := w3) rfl rfl rfl (x_move (v := (Value.int .i64 l2)) rfl e5) ?_
        refine wpR_val (v := (Value.int .i64 (IntKind.i64.wrap (l2 + 1)))) (w' := w3) rfl rfl rfl (x_add rfl rfl rfl) ?_
        refine wpR_val (v := (Value.int .i64 (IntKind.i64.wrap (l2 + 1)))) (w' := w3) rfl rfl rfl (x_assign (v := (Value.int .i64 (IntKind.i64.wrap (l2 + 1)))) rfl rfl) ?_
        refine wpR_nil ?_
        exact ⟨IntKind.i64.wrap (l2 + 1), ⟨rfl, e0, e1, trivial⟩, h⟩
    · replace h := h.2 hc3
      refine wpC_exit ?_
      refine wpC_seq ?_
      refine wpC_cut (fun ρ => True) trivial ?_
      rintro ρ -
      refine wpC_region ?_
      refine wpR_val (v := (Value.bool true)) (w' := w1) rfl rfl rfl (x_assign (v := (Value.bool true)) rfl rfl) ?_
      refine wpR_nil ?_
      refine wpC_ret ?_
      exact ⟨.inl rfl, fun a ha => ⟨_, results_rep1 rfl ha rfl, true, rfl, h⟩⟩

/-- echo.Pairs -/
def F9 (p0 : Sl) (p1 : Sl) (p2 : Int) (w0 : World) (K : Sl → World → Prop) : Prop :=
  rn Try.prog (Instr.makeMap 40 none) (fun (r : (Option Nat)) => (Value.map r)) w0 fun r1 w1 =>
  nw 40 #[(Value.map none)] w1 fun b2 w2 =>
  st (Addr.mk b2 0 none) [(Value.map r1)] w2 fun w3 =>
  lp (fun (next4 : (Sl × Int) → World → Prop) l4 w4 =>
    cnd (decide (l4.2 < (p1.len : Int)))
      (
      ix p1 l4.2 5 fun p6 =>
      ld (Value.int .i64) (p6.add 0) w4 fun x7 =>
      ld (Value.int .i64) (p6.add 1) w4 fun x8 =>
      ld (Value.int .i64) (p6.add 2) w4 fun x9 =>
      ld (Value.int .i64) (p6.add 3) w4 fun x10 =>
      ld (Value.int .i64) (p6.add 4) w4 fun x11 =>
      nw 30 #[(Value.int .i64 0), (Value.int .i64 0), (Value.int .i64 0), (Value.int .i64 0), (Value.int .i64 0)] w4 fun b12 w5 =>
      st (Addr.mk b12 0 none) [(Value.int .i64 x7), (Value.int .i64 x8), (Value.int .i64 x9), (Value.int .i64 x10), (Value.int .i64 x11)] w5 fun w6 =>
      ld (Value.int .i64) ((Addr.mk b12 0 none).add 0) w6 fun x14 =>
      callC Try.prog 16 #[(Value.int .i64 x14)] (fun (r : Int) => (Value.int .i64 r)) w6 fun r15 w7 =>
      nw 3 #[(Value.int .i64 0)] w7 fun b16 w8 =>
      st (Addr.mk b16 0 none) [(Value.int .i64 r15)] w8 fun w9 =>
      ld (Value.int .i64) ((Addr.mk b12 0 none).add 0) w9 fun x18 =>
      ld (Value.int .i64) ((Addr.mk b12 0 none).add 1) w9 fun x19 =>
      ld (Value.int .i64) ((Addr.mk b12 0 none).add 2) w9 fun x20 =>
      ld (Value.int .i64) ((Addr.mk b12 0 none).add 3) w9 fun x21 =>
      ld (Value.int .i64) ((Addr.mk b12 0 none).add 4) w9 fun x22 =>
      callC Try.prog 18 #[(Sl.v p0), (Value.agg #[(Value.int .i64 x18), (Value.int .i64 x19), (Value.int .i64 x20), (Value.int .i64 x21), (Value.int .i64 x22)]), (Value.int .i64 p2), (Value.func (.func 19) #[] (List.toArray [(Value.pointer (some (Addr.mk b2 0 none))), (Value.pointer (some (Addr.mk b16 0 none)))]))] (fun (r : Int) => (Value.int .i64 r)) w9 fun r23 w10 =>
      jn (fun (J24 : Unit → World → Prop) =>
        cnd (decide (0 ≤ r23))
          (
          jn (fun (J28 : Unit → World → Prop) => tk w10 fun w12 =>
            ld Value.map (Addr.mk b2 0 none) w12 fun x29 =>
            ld (Value.int .i64) (Addr.mk b16 0 none) w12 fun x30 =>
            ld Value.map (Addr.mk b2 0 none) w12 fun x31 =>
            ld (Value.int .i64) (Addr.mk b16 0 none) w12 fun x32 =>
            (
              rn Try.prog (Instr.lookup 40 (Value.map x31) (Value.int .i64 x32) false) (fun (r : Sl) => (Sl.v r)) w12 fun r33 w13 =>
              (w13.cell? (Addr.mk b16 0 none) = some (Value.int .i64 x30)) ∧
              (w13.cell? (Addr.mk b2 0 none) = some (Value.map x29)) ∧
              nw 3 #[(Value.int .i64 r23)] w13 fun b34 w14 =>
              (w14.cell? (Addr.mk b16 0 none) = some (Value.int .i64 x30)) ∧
              (w14.cell? (Addr.mk b2 0 none) = some (Value.map x29)) ∧
              rn Try.prog (Builtin.append_ #[25, 25] 25 #[Sl.v r33, Sl.v (⟨some ⟨b34, 0, none⟩, 1, 1⟩ : Sl)]) Sl.v w14 fun r35 w15 =>
              (w15.cell? (Addr.mk b16 0 none) = some (Value.int .i64 x30)) ∧
              (w15.cell? (Addr.mk b2 0 none) = some (Value.map x29)) ∧
              rn0 Try.prog (Instr.mapUpdate 40 (Value.map x29) (Value.int .i64 x30) (Sl.v r35)) w15 fun w16 =>
              J28 () w16
            )
            ∧
            (
              nw 3 #[(Value.int .i64 r23)] w12 fun b37 w17 =>
              (w17.cell? (Addr.mk b16 0 none) = some (Value.int .i64 x32)) ∧
              (w17.cell? (Addr.mk b2 0 none) = some (Value.map x31)) ∧
              (w17.cell? (Addr.mk b16 0 none) = some (Value.int .i64 x30)) ∧
              (w17.cell? (Addr.mk b2 0 none) = some (Value.map x29)) ∧
              rn Try.prog (Instr.lookup 40 (Value.map x31) (Value.int .i64 x32) false) (fun (r : Sl) => (Sl.v r)) w17 fun r38 w18 =>
              (w18.cell? (Addr.mk b16 0 none) = some (Value.int .i64 x30)) ∧
              (w18.cell? (Addr.mk b2 0 none) = some (Value.map x29)) ∧
              rn Try.prog (Builtin.append_ #[25, 25] 25 #[Sl.v r38, Sl.v (⟨some ⟨b37, 0, none⟩, 1, 1⟩ : Sl)]) Sl.v w18 fun r39 w19 =>
              (w19.cell? (Addr.mk b16 0 none) = some (Value.int .i64 x30)) ∧
              (w19.cell? (Addr.mk b2 0 none) = some (Value.map x29)) ∧
              rn0 Try.prog (Instr.mapUpdate 40 (Value.map x29) (Value.int .i64 x30) (Sl.v r39)) w19 fun w20 =>
              J28 () w20
            )
          )
          fun _l41 w21 =>
          J24 () w21
          )
          (
          J24 () w10
          )
      )
      fun _l25 w11 =>
      nw 3 #[(Value.int .i64 r23)] w11 fun b42 w22 =>
      rn Try.prog (Builtin.append_ #[25, 25] 25 #[Sl.v l4.1, Sl.v (⟨some ⟨b42, 0, none⟩, 1, 1⟩ : Sl)]) Sl.v w22 fun r43 w23 =>
      next4 (r43, IntKind.i64.wrap (l4.2 + 1)) w23
      )
      (
      K l4.1 w4
      )
  ) (Sl.nil, 0) w3
set_option maxRecDepth 100000 in
theorem D9 (p0 : Sl) (p1 : Sl) (p2 : Int) (w0 : World) (K : Sl → World → Prop) (h : F9 p0 p1 p2 w0 K) : callC Try.prog 9 #[(Sl.v p0), (Sl.v p1), (Value.int .i64 p2)] (fun (r : Sl) => (Sl.v r)) w0 K := by
  unfold F9 at h
  refine calls_of_wpC Try.func9 rfl 44 rfl (by simp) ?_
  intro ρ hρ
  have e0 : ρ 0 = (Sl.v p0) := hρ 0
  have e1 : ρ 1 = (Sl.v p1) := hρ 1
  have e2 : ρ 2 = (Value.int .i64 p2) := hρ 2
  clear hρ
  refine wpC_seq ?_
  refine wpC_region ?_
  refine wpR_val (v := (Sl.v Sl.nil)) (w' := w0) rfl rfl rfl (x_assign (v := (Sl.v Sl.nil)) rfl rfl) ?_
  refine wpR_nil ?_
  refine wpC_seq ?_
  refine wpC_cut (fun ρ => ρ 0 = (Sl.v p0) ∧ ρ 1 = (Sl.v p1) ∧ ρ 2 = (Value.int .i64 p2) ∧ True) ⟨e0, e1, e2, trivial⟩ ?_
  rintro ρ ⟨e0, e1, e2, -⟩
  refine wpC_region ?_
  refine wpR_val (v := (Sl.v Sl.nil)) (w' := w0) rfl rfl rfl (x_assign (v := (Sl.v Sl.nil)) rfl rfl) ?_
  refine wpR_nil ?_
  refine wpC_seq ?_
  refine wpC_cut (fun ρ => ρ 0 = (Sl.v p0) ∧ ρ 1 = (Sl.v p1) ∧ ρ 2 = (Value.int .i64 p2) ∧ ρ 7 = (Sl.v Sl.nil) ∧ True) ⟨e0, e1, e2, rfl, trivial⟩ ?_
  rintro ρ ⟨e0, e1, e2, e7, -⟩
  refine wpC_region ?_
  obtain ⟨r1, w1, q1, h⟩ := h
  refine wpR_val (v := (Value.map r1)) (w' := w1) rfl rfl rfl (x_makeMap rfl rfl q1) ?_
  obtain ⟨b2, hb2⟩ : ∃ u, u = w1.heap.size := ⟨_, rfl⟩
  obtain ⟨w2, hw2⟩ : ∃ u, u = w1.alloc (.cells #[(Value.map none)] 40) := ⟨_, rfl⟩
  replace h := h b2 w2 hb2 hw2
  refine wpR_val (v := (Value.pointer (some (Addr.mk b2 0 none)))) (w' := w2) rfl rfl rfl ((x_alloc rfl ZV_40).trans (by rw [hb2, hw2]; rfl)) ?_
  obtain ⟨q3, h⟩ := h
  obtain ⟨w3, hw3⟩ : ∃ u, u = setAll w2 (Addr.mk b2 0 none) [(Value.map r1)] 0 := ⟨_, rfl⟩
  replace h := h w3 hw3
  refine wpR_skp (w' := w3) rfl rfl ((x_store (v := (Value.map r1)) rfl rfl rfl SZ_40 (ones (by rfl)) q3).trans (by rw [hw3]; rfl)) ?_
  refine wpR_nil ?_
  refine wpC_seq ?_
  refine wpC_seq ?_
  refine wpC_cut (fun ρ => ρ 0 = (Sl.v p0) ∧ ρ 1 = (Sl.v p1) ∧ ρ 2 = (Value.int .i64 p2) ∧ ρ 7 = (Sl.v Sl.nil) ∧ ρ 8 = (Value.pointer (some (Addr.mk b2 0 none))) ∧ True) ⟨e0, e1, e2, e7, rfl, trivial⟩ ?_
  rintro ρ ⟨e0, e1, e2, e7, e8, -⟩
  refine wpC_region ?_
  refine wpR_val (v := (Sl.v p1)) (w' := w3) rfl rfl rfl (x_move (v := (Sl.v p1)) rfl e1) ?_
  refine wpR_val (v := (Value.int .i64 (p1.len : Int))) (w' := w3) rfl rfl rfl (x_lenS (s := p1) rfl rfl isSliceT_22) ?_
  refine wpR_val (v := (Value.int .i64 0)) (w' := w3) rfl rfl rfl (x_move (v := (Value.int .i64 0)) rfl rfl) ?_
  refine wpR_nil ?_
  refine wpC_block ?_
  obtain ⟨I4, μ4, hI4, hr4⟩ := h
  refine wpC_loop (fun (x : Sl × Int) ρ => ρ 7 = (Sl.v x.1) ∧ ρ 16 = (Value.int .i64 x.2) ∧ ρ 0 = (Sl.v p0) ∧ ρ 2 = (Value.int .i64 p2) ∧ ρ 8 = (Value.pointer (some (Addr.mk b2 0 none))) ∧ ρ 14 = (Sl.v p1) ∧ ρ 15 = (Value.int .i64 (p1.len : Int)) ∧ True) I4 μ4 (Sl.nil, 0) ⟨e7, rfl, e0, e2, e8, rfl, rfl, trivial⟩ hI4 ?_
  rintro l4 ρ w4 ⟨e7, e16, e0, e2, e8, e14, e15, -⟩ h
  replace h := hr4 l4 w4 h
  clear hr4 hI4
  refine wpC_seq ?_
  refine wpC_region ?_
  refine wpR_val (v := (Value.bool (decide (l4.2 < (p1.len : Int))))) (w' := w4) rfl rfl rfl (x_lss rfl e16 e15) ?_
  refine wpR_nil ?_
  refine wpC_seq ?_
  refine wpC_cond (b := decide (l4.2 < (p1.len : Int))) rfl (fun hc5 => ?_) (fun hc5 => ?_)
  · replace h := h.1 hc5
    refine wpC_skip ?_
    refine wpC_seq ?_
    refine wpC_block ?_
    refine wpC_seq ?_
    refine wpC_cut (fun ρ => ρ 0 = (Sl.v p0) ∧ ρ 2 = (Value.int .i64 p2) ∧ ρ 7 = (Sl.v l4.1) ∧ ρ 8 = (Value.pointer (some (Addr.mk b2 0 none))) ∧ ρ 14 = (Sl.v p1) ∧ ρ 15 = (Value.int .i64 (p1.len : Int)) ∧ ρ 16 = (Value.int .i64 l4.2) ∧ True) ⟨e0, e2, e7, e8, e14, e15, e16, trivial⟩ ?_
    rintro ρ ⟨e0, e2, e7, e8, e14, e15, e16, -⟩
    refine wpC_region ?_
    obtain ⟨q6, z6, r6, h⟩ := h
    generalize hp6 : z6.add ((l4.2 : Int).toNat * 5) = p6 at h
    refine wpR_val (v := (Value.pointer (some p6))) (w' := w4) rfl rfl rfl ((x_indexAddr (s := p1) rfl e14 e16 ES_22 q6 r6).trans (by rw [hp6])) ?_
    obtain ⟨x7, q7, h⟩ := h
    obtain ⟨x8, q8, h⟩ := h
    obtain ⟨x9, q9, h⟩ := h
    obtain ⟨x10, q10, h⟩ := h
    obtain ⟨x11, q11, h⟩ := h
    refine wpR_val (v := (Value.agg #[(Value.int .i64 x7), (Value.int .i64 x8), (Value.int .i64 x9), (Value.int .i64 x10), (Value.int .i64 x11)])) (w' := w4) rfl rfl rfl (x_loadN [(Value.int .i64 x7), (Value.int .i64 x8), (Value.int .i64 x9), (Value.int .i64 x10), (Value.int .i64 x11)] rfl rfl SH_30 (CellsAt.out (CellsAt.cons q7 (CellsAt.cons q8 (CellsAt.cons q9 (CellsAt.cons q10 (CellsAt.cons q11 CellsAt.nil))))))) ?_
    obtain ⟨b12, hb12⟩ : ∃ u, u = w4.heap.size := ⟨_, rfl⟩
    obtain ⟨w5, hw12⟩ : ∃ u, u = w4.alloc (.cells #[(Value.int .i64 0), (Value.int .i64 0), (Value.int .i64 0), (Value.int .i64 0), (Value.int .i64 0)] 30) := ⟨_, rfl⟩
    replace h := h b12 w5 hb12 hw12
    refine wpR_val (v := (Value.pointer (some (Addr.mk b12 0 none)))) (w' := w5) rfl rfl rfl ((x_alloc rfl ZV_30).trans (by rw [hb12, hw12]; rfl)) ?_
    obtain ⟨q13, h⟩ := h
    obtain ⟨w6, hw13⟩ : ∃ u, u = setAll w5 (Addr.mk b12 0 none) [(Value.int .i64 x7), (Value.int .i64 x8), (Value.int .i64 x9), (Value.int .i64 x10), (Value.int .i64 x11)] 0 := ⟨_, rfl⟩
    replace h := h w6 hw13
    refine wpR_skp (w' := w6) rfl rfl ((x_store (v := (Value.agg #[(Value.int .i64 x7), (Value.int .i64 x8), (Value.int .i64 x9), (Value.int .i64 x10), (Value.int .i64 x11)])) rfl rfl rfl SZ_30 (ones (by rfl)) q13).trans (by rw [hw13]; rfl)) ?_
    refine wpR_nil ?_
    refine wpC_seq ?_
    refine wpC_cut (fun ρ => ρ 0 = (Sl.v p0) ∧ ρ 2 = (Value.int .i64 p2) ∧ ρ 7 = (Sl.v l4.1) ∧ ρ 8 = (Value.pointer (some (Addr.mk b2 0 none))) ∧ ρ 10 = (Value.pointer (some (Addr.mk b12 0 none))) ∧ ρ 14 = (Sl.v p1) ∧ ρ 15 = (Value.int .i64 (p1.len : Int)) ∧ ρ 16 = (Value.int .i64 l4.2) ∧ True) ⟨e0, e2, e7, e8, rfl, e14, e15, e16, trivial⟩ ?_
    rintro ρ ⟨e0, e2, e7, e8, e10, e14, e15, e16, -⟩
    refine wpC_region ?_
    refine wpR_val (v := (Value.pointer (some ((Addr.mk b12 0 none).add 0)))) (w' := w6) rfl rfl rfl (x_fieldAddr rfl e10 FA_30_0) ?_
    obtain ⟨x14, q14, h⟩ := h
    refine wpR_val (v := (Value.int .i64 x14)) (w' := w6) rfl rfl rfl (x_load1 rfl rfl SH_3 q14) ?_
    refine wpR_enter rfl rfl rfl (x_call (vs := [(Value.int .i64 x14)]) rfl rfl (mapl_cons rfl mapl_nil) Try.func16 NN_16 NB_16) (Calls.mono h ?_)
    rintro _ w7 ⟨r15, rfl, h⟩
    refine ⟨_, rfl, ?_⟩
    obtain ⟨b16, hb16⟩ : ∃ u, u = w7.heap.size := ⟨_, rfl⟩
    obtain ⟨w8, hw16⟩ : ∃ u, u = w7.alloc (.cells #[(Value.int .i64 0)] 3) := ⟨_, rfl⟩
    replace h := h b16 w8 hb16 hw16
    refine wpR_val (v := (Value.pointer (some (Addr.mk b16 0 none)))) (w' := w8) rfl rfl rfl ((x_alloc rfl ZV_3).trans (by rw [hb16, hw16]; rfl)) ?_
    obtain ⟨q17, h⟩ := h
    obtain ⟨w9, hw17⟩ : ∃ u, u = setAll w8 (Addr.mk b16 0 none) [(Value.int .i64 r15)] 0 := ⟨_, rfl⟩
    replace h := h w9 hw17
    refine wpR_skp (w' := w9) rfl rfl ((x_store (v := (Value.int .i64 r15)) rfl rfl rfl SZ_3 (ones (by rfl)) q17).trans (by rw [hw17]; rfl)) ?_
    refine wpR_nil ?_
    refine wpC_seq ?_
    refine wpC_cut (fun ρ => ρ 0 = (Sl.v p0) ∧ ρ 2 = (Value.int .i64 p2) ∧ ρ 7 = (Sl.v l4.1) ∧ ρ 8 = (Value.pointer (some (Addr.mk b2 0 none))) ∧ ρ 10 = (Value.pointer (some (Addr.mk b12 0 none))) ∧ ρ 11 = (Value.pointer (some (Addr.mk b16 0 none))) ∧ ρ 14 = (Sl.v p1) ∧ ρ 15 = (Value.int .i64 (p1.len : Int)) ∧ ρ 16 = (Value.int .i64 l4.2) ∧ True) ⟨e0, e2, e7, e8, e10, rfl, e14, e15, e16, trivial⟩ ?_
    rintro ρ ⟨e0, e2, e7, e8, e10, e11, e14, e15, e16, -⟩
    refine wpC_region ?_
    refine wpR_val (v := (Sl.v p0)) (w' := w9) rfl rfl rfl (x_move (v := (Sl.v p0)) rfl e0) ?_
    obtain ⟨x18, q18, h⟩ := h
    obtain ⟨x19, q19, h⟩ := h
    obtain ⟨x20, q20, h⟩ := h
    obtain ⟨x21, q21, h⟩ := h
    obtain ⟨x22, q22, h⟩ := h
    refine wpR_val (v := (Value.agg #[(Value.int .i64 x18), (Value.int .i64 x19), (Value.int .i64 x20), (Value.int .i64 x21), (Value.int .i64 x22)])) (w' := w9) rfl rfl rfl (x_loadN [(Value.int .i64 x18), (Value.int .i64 x19), (Value.int .i64 x20), (Value.int .i64 x21), (Value.int .i64 x22)] rfl e10 SH_30 (CellsAt.out (CellsAt.cons q18 (CellsAt.cons q19 (CellsAt.cons q20 (CellsAt.cons q21 (CellsAt.cons q22 CellsAt.nil))))))) ?_
    refine wpR_val (v := (Value.int .i64 p2)) (w' := w9) rfl rfl rfl (x_move (v := (Value.int .i64 p2)) rfl e2) ?_
    refine wpR_val (v := (Value.func (.func 19) #[] (List.toArray [(Value.pointer (some (Addr.mk b2 0 none))), (Value.pointer (some (Addr.mk b16 0 none)))]))) (w' := w9) rfl rfl rfl (x_makeFunc (vs := [(Value.pointer (some (Addr.mk b2 0 none))), (Value.pointer (some (Addr.mk b16 0 none)))]) rfl (mapl_cons e8 (mapl_cons e11 mapl_nil))) ?_
    refine wpR_enter rfl rfl rfl (x_call (vs := [(Sl.v p0), (Value.agg #[(Value.int .i64 x18), (Value.int .i64 x19), (Value.int .i64 x20), (Value.int .i64 x21), (Value.int .i64 x22)]), (Value.int .i64 p2), (Value.func (.func 19) #[] (List.toArray [(Value.pointer (some (Addr.mk b2 0 none))), (Value.pointer (some (Addr.mk b16 0 none)))]))]) rfl rfl (mapl_cons rfl (mapl_cons rfl (mapl_cons rfl (mapl_cons rfl mapl_nil)))) Try.func18 NN_18 NB_18) (Calls.mono h ?_)
    rintro _ w10 ⟨r23, rfl, h⟩
    refine ⟨_, rfl, ?_⟩
    refine wpR_val (v := (Value.int .i64 r23)) (w' := w10) rfl rfl rfl (x_assign (v := (Value.int .i64 r23)) rfl rfl) ?_
    refine wpR_nil ?_
    obtain ⟨J24, h, hk⟩ := h
    refine wpC_seqJ (fun (x : Unit) ρ => ρ 0 = (Sl.v p0) ∧ ρ 2 = (Value.int .i64 p2) ∧ ρ 7 = (Sl.v l4.1) ∧ ρ 8 = (Value.pointer (some (Addr.mk b2 0 none))) ∧ ρ 12 = (Value.int .i64 r23) ∧ ρ 14 = (Sl.v p1) ∧ ρ 15 = (Value.int .i64 (p1.len : Int)) ∧ ρ 16 = (Value.int .i64 l4.2) ∧ True) J24 ?_ ?_
    · clear hk
      refine wpC_seq ?_
      refine wpC_cut (fun ρ => ρ 0 = (Sl.v p0) ∧ ρ 2 = (Value.int .i64 p2) ∧ ρ 7 = (Sl.v l4.1) ∧ ρ 8 = (Value.pointer (some (Addr.mk b2 0 none))) ∧ ρ 11 = (Value.pointer (some (Addr.mk b16 0 none))) ∧ ρ 12 = (Value.int .i64 r23) ∧ ρ 14 = (Sl.v p1) ∧ ρ 15 = (Value.int .i64 (p1.len : Int)) ∧ ρ 16 = (Value.int .i64 l4.2) ∧ True) ⟨e0, e2, e7, e8, e11, rfl, e14, e15, e16, trivial⟩ ?_
      rintro ρ ⟨e0, e2, e7, e8, e11, e12, e14, e15, e16, -⟩
      refine wpC_region ?_
      refine wpR_val (v := (Value.int .i64 r23)) (w' := w10) rfl rfl rfl (x_move (v := (Value.int .i64 r23)) rfl e12) ?_
      refine wpR_val (v := (Value.bool (decide (0 ≤ r23)))) (w' := w10) rfl rfl rfl (x_geq rfl rfl rfl) ?_
      refine wpR_nil ?_
      refine wpC_cond (b := decide (0 ≤ r23)) rfl (fun hc26 => ?_) (fun hc26 => ?_)
      · replace h := h.1 hc26
        refine wpC_cut (fun ρ => ρ 0 = (Sl.v p0) ∧ ρ 2 = (Value.int .i64 p2) ∧ ρ 7 = (Sl.v l4.1) ∧ ρ 8 = (Value.pointer (some (Addr.mk b2 0 none))) ∧ ρ 11 = (Value.pointer (some (Addr.mk b16 0 none))) ∧ ρ 12 = (Value.int .i64 r23) ∧ ρ 14 = (Sl.v p1) ∧ ρ 15 = (Value.int .i64 (p1.len : Int)) ∧ ρ 16 = (Value.int .i64 l4.2) ∧ True) ⟨e0, e2, e7, e8, e11, e12, e14, e15, e16, trivial⟩ ?_
        rintro ρ ⟨e0, e2, e7, e8, e11, e12, e14, e15, e16, -⟩
        obtain ⟨J28, h, hk⟩ := h
        refine wpC_drawJ (by kernel_rfl) (fun (x : Unit) ρ => ρ 0 = (Sl.v p0) ∧ ρ 2 = (Value.int .i64 p2) ∧ ρ 7 = (Sl.v l4.1) ∧ ρ 8 = (Value.pointer (some (Addr.mk b2 0 none))) ∧ ρ 12 = (Value.int .i64 r23) ∧ ρ 14 = (Sl.v p1) ∧ ρ 15 = (Value.int .i64 (p1.len : Int)) ∧ ρ 16 = (Value.int .i64 l4.2) ∧ True) J28 ?_ ?_
        · clear hk
          unfold tk at h
          generalize w10.drew = w12 at h ⊢
          obtain ⟨x29, q29, h⟩ := h
          refine wpD_take (v := (Value.map x29)) 0 (fun w => w.cell? (Addr.mk b2 0 none) = some (Value.map x29)) rfl (by kernel_rfl) (by kernel_rfl) (by kernel_rfl) rfl rfl rfl q29 (fun w q29 => (x_load1 rfl e8 SH_40 q29)) ?_
          obtain ⟨x30, q30, h⟩ := h
          refine wpD_take (v := (Value.int .i64 x30)) 1 (fun w => w.cell? (Addr.mk b16 0 none) = some (Value.int .i64 x30)) rfl (by kernel_rfl) (by kernel_rfl) (by kernel_rfl) rfl rfl rfl q30 (fun w q30 => (x_load1 rfl e11 SH_3 q30)) ?_
          obtain ⟨x31, q31, h⟩ := h
          refine wpD_take (v := (Value.map x31)) 2 (fun w => w.cell? (Addr.mk b2 0 none) = some (Value.map x31)) rfl (by kernel_rfl) (by kernel_rfl) (by kernel_rfl) rfl rfl rfl q31 (fun w q31 => (x_load1 rfl e8 SH_40 q31)) ?_
          obtain ⟨x32, q32, h⟩ := h
          refine wpD_take (v := (Value.int .i64 x32)) 3 (fun w => w.cell? (Addr.mk b16 0 none) = some (Value.int .i64 x32)) rfl (by kernel_rfl) (by kernel_rfl) (by kernel_rfl) rfl rfl rfl q32 (fun w q32 => (x_load1 rfl e11 SH_3 q32)) ?_
          refine wpD_take (v := (Value.int .i64 r23)) 5 (fun _ => True) rfl (by kernel_rfl) (by kernel_rfl) (by kernel_rfl) rfl rfl rfl trivial (fun w _ => (x_move (v := (Value.int .i64 r23)) rfl e12)) ?_
          refine wpD_all (rs := [4, 6]) (by kernel_rfl) (by simp) (allD_cons ?_ (allD_cons ?_ allD_nil))
          · replace h := h.1
            obtain ⟨r33, w13, q33, h⟩ := h
            obtain ⟨o1, h⟩ := h
            obtain ⟨o0, h⟩ := h
            refine stepD_valL (L' := [(5, fun _ => True), (1, fun w => w.cell? (Addr.mk b16 0 none) = some (Value.int .i64 x30)), (0, fun w => w.cell? (Addr.mk b2 0 none) = some (Value.map x29))]) (v := (Sl.v r33)) (w' := w13) rfl rfl rfl rfl (x_lookup rfl rfl rfl q33) (by kernel_rfl) (held_cons trivial (held_cons o1 (held_cons o0 held_nil))) ?_
            refine wpD_all (rs := [6]) (by kernel_rfl) (by simp) (allD_cons ?_ allD_nil)
            obtain ⟨b34, hb34⟩ : ∃ u, u = w13.heap.size := ⟨_, rfl⟩
            obtain ⟨w14, hw34⟩ : ∃ u, u = w13.alloc (.cells #[(Value.int .i64 r23)] 3) := ⟨_, rfl⟩
            replace h := h b34 w14 hb34 hw34
            obtain ⟨o1, h⟩ := h
            obtain ⟨o0, h⟩ := h
            refine stepD_valL (L' := [(1, fun w => w.cell? (Addr.mk b16 0 none) = some (Value.int .i64 x30)), (0, fun w => w.cell? (Addr.mk b2 0 none) = some (Value.map x29))]) (v := (Sl.v (⟨some ⟨b34, 0, none⟩, 1, 1⟩ : Sl))) (w' := w14) rfl rfl rfl rfl ((x_buildSlice (qs := [(0, (Value.int .i64 r23))]) rfl (by rfl) (BS_25_1_0 r23)).trans (by rw [← hb34, ← hw34])) (by kernel_rfl) (held_cons o1 (held_cons o0 held_nil)) ?_
            refine wpD_all (rs := [7]) (by kernel_rfl) (by simp) (allD_cons ?_ allD_nil)
            obtain ⟨r35, w15, q35, h⟩ := h
            obtain ⟨o1, h⟩ := h
            obtain ⟨o0, h⟩ := h
            refine stepD_valL (L' := [(1, fun w => w.cell? (Addr.mk b16 0 none) = some (Value.int .i64 x30)), (0, fun w => w.cell? (Addr.mk b2 0 none) = some (Value.map x29))]) (v := (Sl.v r35)) (w' := w15) rfl rfl rfl rfl (x_append (s := r33) (u := (⟨some ⟨b34, 0, none⟩, 1, 1⟩ : Sl)) rfl rfl rfl rfl q35) (by kernel_rfl) (held_cons o1 (held_cons o0 held_nil)) ?_
            refine wpD_all (rs := [8]) (by kernel_rfl) (by simp) (allD_cons ?_ allD_nil)
            obtain ⟨w16, q36, h⟩ := h
            refine stepD_skpL (L' := []) (w' := w16) rfl rfl rfl (x_mapUpdate rfl rfl rfl rfl q36) (by kernel_rfl) held_nil ?_
            exact wpD_done (by kernel_rfl) ⟨(), ⟨e0, e2, e7, e8, e12, e14, e15, e16, trivial⟩, h⟩
          · replace h := h.2
            obtain ⟨b37, hb37⟩ : ∃ u, u = w12.heap.size := ⟨_, rfl⟩
            obtain ⟨w17, hw37⟩ : ∃ u, u = w12.alloc (.cells #[(Value.int .i64 r23)] 3) := ⟨_, rfl⟩
            replace h := h b37 w17 hb37 hw37
            obtain ⟨o3, h⟩ := h
            obtain ⟨o2, h⟩ := h
            obtain ⟨o1, h⟩ := h
            obtain ⟨o0, h⟩ := h
            refine stepD_valL (L' := [(3, fun w => w.cell? (Addr.mk b16 0 none) = some (Value.int .i64 x32)), (2, fun w => w.cell? (Addr.mk b2 0 none) = some (Value.map x31)), (1, fun w => w.cell? (Addr.mk b16 0 none) = some (Value.int .i64 x30)), (0, fun w => w.cell? (Addr.mk b2 0 none) = some (Value.map x29))]) (v := (Sl.v (⟨some ⟨b37, 0, none⟩, 1, 1⟩ : Sl))) (w' := w17) rfl rfl rfl rfl ((x_buildSlice (qs := [(0, (Value.int .i64 r23))]) rfl (by rfl) (BS_25_1_0 r23)).trans (by rw [← hb37, ← hw37])) (by kernel_rfl) (held_cons o3 (held_cons o2 (held_cons o1 (held_cons o0 held_nil)))) ?_
            refine wpD_all (rs := [4]) (by kernel_rfl) (by simp) (allD_cons ?_ allD_nil)
            obtain ⟨r38, w18, q38, h⟩ := h
            obtain ⟨o1, h⟩ := h
            obtain ⟨o0, h⟩ := h
            refine stepD_valL (L' := [(1, fun w => w.cell? (Addr.mk b16 0 none) = some (Value.int .i64 x30)), (0, fun w => w.cell? (Addr.mk b2 0 none) = some (Value.map x29))]) (v := (Sl.v r38)) (w' := w18) rfl rfl rfl rfl (x_lookup rfl rfl rfl q38) (by kernel_rfl) (held_cons o1 (held_cons o0 held_nil)) ?_
            refine wpD_all (rs := [7]) (by kernel_rfl) (by simp) (allD_cons ?_ allD_nil)
            obtain ⟨r39, w19, q39, h⟩ := h
            obtain ⟨o1, h⟩ := h
            obtain ⟨o0, h⟩ := h
            refine stepD_valL (L' := [(1, fun w => w.cell? (Addr.mk b16 0 none) = some (Value.int .i64 x30)), (0, fun w => w.cell? (Addr.mk b2 0 none) = some (Value.map x29))]) (v := (Sl.v r39)) (w' := w19) rfl rfl rfl rfl (x_append (s := r38) (u := (⟨some ⟨b37, 0, none⟩, 1, 1⟩ : Sl)) rfl rfl rfl rfl q39) (by kernel_rfl) (held_cons o1 (held_cons o0 held_nil)) ?_
            refine wpD_all (rs := [8]) (by kernel_rfl) (by simp) (allD_cons ?_ allD_nil)
            obtain ⟨w20, q40, h⟩ := h
            refine stepD_skpL (L' := []) (w' := w20) rfl rfl rfl (x_mapUpdate rfl rfl rfl rfl q40) (by kernel_rfl) held_nil ?_
            exact wpD_done (by kernel_rfl) ⟨(), ⟨e0, e2, e7, e8, e12, e14, e15, e16, trivial⟩, h⟩
        clear h
        rintro l41 ρ w21 ⟨e0, e2, e7, e8, e12, e14, e15, e16, -⟩ h
        replace h := hk l41 w21 h
        clear hk
        exact ⟨(), ⟨e0, e2, e7, e8, e12, e14, e15, e16, trivial⟩, h⟩
      · replace h := h.2 hc26
        refine wpC_skip ?_
        exact ⟨(), ⟨e0, e2, e7, e8, e12, e14, e15, e16, trivial⟩, h⟩
    clear h
    rintro l25 ρ w11 ⟨e0, e2, e7, e8, e12, e14, e15, e16, -⟩ h
    replace h := hk l25 w11 h
    clear hk
    refine wpC_region ?_
    refine wpR_val (v := (Sl.v l4.1)) (w' := w11) rfl rfl rfl (x_move (v := (Sl.v l4.1)) rfl e7) ?_
    refine wpR_val (v := (Value.int .i64 r23)) (w' := w11) rfl rfl rfl (x_move (v := (Value.int .i64 r23)) rfl e12) ?_
    obtain ⟨b42, hb42⟩ : ∃ u, u = w11.heap.size := ⟨_, rfl⟩
    obtain ⟨w22, hw42⟩ : ∃ u, u = w11.alloc (.cells #[(Value.int .i64 r23)] 3) := ⟨_, rfl⟩
    replace h := h b42 w22 hb42 hw42
    refine wpR_val (v := (Sl.v (⟨some ⟨b42, 0, none⟩, 1, 1⟩ : Sl))) (w' := w22) rfl rfl rfl ((x_buildSlice (qs := [(0, (Value.int .i64 r23))]) rfl (by rfl) (BS_25_1_0 r23)).trans (by rw [← hb42, ← hw42])) ?_
    obtain ⟨r43, w23, q43, h⟩ := h
    refine wpR_val (v := (Sl.v r43)) (w' := w23) rfl rfl rfl (x_append (s := l4.1) (u := (⟨some ⟨b42, 0, none⟩, 1, 1⟩ : Sl)) rfl rfl rfl rfl q43) ?_
    refine wpR_val (v := (Sl.v r43)) (w' := w23) rfl rfl rfl (x_assign (v := (Sl.v r43)) rfl rfl) ?_
    refine wpR_nil ?_
    refine wpC_cut (fun ρ => ρ 0 = (Sl.v p0) ∧ ρ 2 = (Value.int .i64 p2) ∧ ρ 7 = (Sl.v r43) ∧ ρ 8 = (Value.pointer (some (Addr.mk b2 0 none))) ∧ ρ 14 = (Sl.v p1) ∧ ρ 15 = (Value.int .i64 (p1.len : Int)) ∧ ρ 16 = (Value.int .i64 l4.2) ∧ True) ⟨e0, e2, rfl, e8, e14, e15, e16, trivial⟩ ?_
    rintro ρ ⟨e0, e2, e7, e8, e14, e15, e16, -⟩
    refine wpC_region ?_
    refine wpR_val (v := (Value.int .i64 (IntKind.i64.wrap (l4.2 + 1)))) (w' := w23) rfl rfl rfl (x_add rfl e16 rfl) ?_
    refine wpR_val (v := (Value.int .i64 (IntKind.i64.wrap (l4.2 + 1)))) (w' := w23) rfl rfl rfl (x_move (v := (Value.int .i64 (IntKind.i64.wrap (l4.2 + 1)))) rfl rfl) ?_
    refine wpR_nil ?_
    exact ⟨(r43, IntKind.i64.wrap (l4.2 + 1)), ⟨e7, rfl, e0, e2, e8, e14, e15, trivial⟩, h⟩
  · replace h := h.2 hc5
    refine wpC_exit ?_
    refine wpC_seq ?_
    refine wpC_cut (fun ρ => ρ 7 = (Sl.v l4.1) ∧ True) ⟨e7, trivial⟩ ?_
    rintro ρ ⟨e7, -⟩
    refine wpC_region ?_
    refine wpR_val (v := (Sl.v l4.1)) (w' := w4) rfl rfl rfl (x_move (v := (Sl.v l4.1)) rfl e7) ?_
    refine wpR_val (v := (Sl.v l4.1)) (w' := w4) rfl rfl rfl (x_assign (v := (Sl.v l4.1)) rfl rfl) ?_
    refine wpR_nil ?_
    refine wpC_ret ?_
    exact ⟨.inl rfl, fun a ha => ⟨_, results_rep1 rfl ha rfl, l4.1, rfl, h⟩⟩


end Go.Proofs.Ythnebjgmhdilbaa
