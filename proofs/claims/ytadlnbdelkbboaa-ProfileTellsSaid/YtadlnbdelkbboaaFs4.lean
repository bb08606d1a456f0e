import Derived.Test.YtadlnbdelkbboaaRows
import Derived.Test.YtadlnbdelkbboaaFs1
import Derived.Test.YtadlnbdelkbboaaDecRaw
namespace Go.Proofs.Ytadlnbdelkbboaa
open Go.Dec
set_option maxHeartbeats 400000
set_option maxRecDepth 100000

/-- profile.Join -/
def F17 (p0_0 : ByteArray) (p0_1 : Int) (p0_2 : Int) (p0_3 : Int) (p0_4 : Bool) (p0_5 : Int) (p0_6 : Bool) (p0_7 : Bool) (p0_8 : Int) (p0_9 : Int) (p0_10 : Int) (p0_11 : Int) (p0_12 : Sl) (p0_13 : Int) (p0_14 : Int) (p0_15 : Int) (p0_16 : Int) (p0_17 : Bool) (p0_18 : Int) (p0_19 : Int) (p0_20 : Int) (p0_21 : Int) (p1_0 : ByteArray) (p1_1 : Int) (p1_2 : Int) (p1_3 : Int) (p1_4 : Bool) (p1_5 : Int) (p1_6 : Bool) (p1_7 : Bool) (p1_8 : Int) (p1_9 : Int) (p1_10 : Int) (p1_11 : Int) (p1_12 : Sl) (p1_13 : Int) (p1_14 : Int) (p1_15 : Int) (p1_16 : Int) (p1_17 : Bool) (p1_18 : Int) (p1_19 : Int) (p1_20 : Int) (p1_21 : Int) (w0 : World) (K : T23 → World → Prop) : Prop :=
  nw 24 (A23 p0_0 p0_1 p0_2 p0_3 p0_4 p0_5 p0_6 p0_7 p0_8 p0_9 p0_10 p0_11 p0_12 p0_13 p0_14 p0_15 p0_16 p0_17 p0_18 p0_19 p0_20 p0_21) w0 fun b1 w1 =>
  nw 24 (A23 p1_0 p1_1 p1_2 p1_3 p1_4 p1_5 p1_6 p1_7 p1_8 p1_9 p1_10 p1_11 p1_12 p1_13 p1_14 p1_15 p1_16 p1_17 p1_18 p1_19 p1_20 p1_21) w1 fun b2 w2 =>
  nw 24 (A23 (ByteArray.mk #[]) 0 0 0 false 0 false false 0 0 0 0 Sl.nil 0 0 0 0 false 0 0 0 0) w2 fun b3 w3 =>
  L23 (Addr.mk b1 0 none) w3 fun x4 x5 x6 x7 x8 x9 x10 x11 x12 x13 x14 x15 x16 x17 x18 x19 x20 x21 x22 x23 x24 x25 =>
  nw 24 (A23 (ByteArray.mk #[]) 0 0 0 false 0 false false 0 0 0 0 Sl.nil 0 0 0 0 false 0 0 0 0) w3 fun b26 w4 =>
  st (Addr.mk b26 0 none) (S23 x4 x5 x6 x7 x8 x9 x10 x11 x12 x13 x14 x15 x16 x17 x18 x19 x20 x21 x22 x23 x24 x25) w4 fun w5 =>
  jn (fun (J29 : Unit → World → Prop) => tk w5 fun w6 =>
    ld (Value.int .i64) ((Addr.mk b1 0 none).add 1) w6 fun x30 =>
    ld (Value.int .i64) ((Addr.mk b2 0 none).add 1) w6 fun x31 =>
    ld (Value.int .i64) ((Addr.mk b1 0 none).add 3) w6 fun x32 =>
    ld (Value.int .i64) ((Addr.mk b2 0 none).add 3) w6 fun x33 =>
    ld (Value.int .i64) ((Addr.mk b1 0 none).add 5) w6 fun x34 =>
    ld (Value.int .i64) ((Addr.mk b2 0 none).add 5) w6 fun x35 =>
    st ((Addr.mk b26 0 none).add 1) [(Value.int .i64 (max x30 x31))] w6 fun w7 =>
    (w7.cell? ((Addr.mk b2 0 none).add 5) = some (Value.int .i64 x35)) ∧
    (w7.cell? ((Addr.mk b1 0 none).add 5) = some (Value.int .i64 x34)) ∧
    (w7.cell? ((Addr.mk b2 0 none).add 3) = some (Value.int .i64 x33)) ∧
    (w7.cell? ((Addr.mk b1 0 none).add 3) = some (Value.int .i64 x32)) ∧
    st ((Addr.mk b26 0 none).add 3) [(Value.int .i64 (max x32 x33))] w7 fun w8 =>
    (w8.cell? ((Addr.mk b2 0 none).add 5) = some (Value.int .i64 x35)) ∧
    (w8.cell? ((Addr.mk b1 0 none).add 5) = some (Value.int .i64 x34)) ∧
    st ((Addr.mk b26 0 none).add 5) [(Value.int .i64 (max x34 x35))] w8 fun w9 =>
    J29 () w9
  )
  fun _l39 w10 =>
  jn (fun (J41 : Unit → World → Prop) => tk w10 fun w11 =>
    ld Value.bool ((Addr.mk b1 0 none).add 4) w11 fun x42 =>
    cnd (x42)
      (
      ld Value.bool ((Addr.mk b1 0 none).add 6) w11 fun x44 =>
      cnd (x44)
        (
        ld Value.bool ((Addr.mk b1 0 none).add 7) w11 fun x46 =>
        cnd (x46)
          (
          st ((Addr.mk b26 0 none).add 4) [(Value.bool true)] w11 fun w12 =>
          (w12.cell? ((Addr.mk b1 0 none).add 7) = some (Value.bool x46)) ∧
          (w12.cell? ((Addr.mk b1 0 none).add 6) = some (Value.bool x44)) ∧
          st ((Addr.mk b26 0 none).add 6) [(Value.bool true)] w12 fun w13 =>
          (w13.cell? ((Addr.mk b1 0 none).add 7) = some (Value.bool x46)) ∧
          st ((Addr.mk b26 0 none).add 7) [(Value.bool true)] w13 fun w14 =>
          J41 () w14
          )
          (
          ld Value.bool ((Addr.mk b2 0 none).add 7) w11 fun x51 =>
          st ((Addr.mk b26 0 none).add 4) [(Value.bool true)] w11 fun w15 =>
          (w15.cell? ((Addr.mk b2 0 none).add 7) = some (Value.bool x51)) ∧
          (w15.cell? ((Addr.mk b1 0 none).add 7) = some (Value.bool x46)) ∧
          (w15.cell? ((Addr.mk b1 0 none).add 6) = some (Value.bool x44)) ∧
          st ((Addr.mk b26 0 none).add 6) [(Value.bool true)] w15 fun w16 =>
          (w16.cell? ((Addr.mk b2 0 none).add 7) = some (Value.bool x51)) ∧
          (w16.cell? ((Addr.mk b1 0 none).add 7) = some (Value.bool x46)) ∧
          st ((Addr.mk b26 0 none).add 7) [(Value.bool x51)] w16 fun w17 =>
          J41 () w17
          )
        )
        (
        ld Value.bool ((Addr.mk b2 0 none).add 6) w11 fun x55 =>
        ld Value.bool ((Addr.mk b1 0 none).add 7) w11 fun x56 =>
        cnd (x56)
          (
          st ((Addr.mk b26 0 none).add 4) [(Value.bool true)] w11 fun w18 =>
          (w18.cell? ((Addr.mk b1 0 none).add 7) = some (Value.bool x56)) ∧
          (w18.cell? ((Addr.mk b2 0 none).add 6) = some (Value.bool x55)) ∧
          (w18.cell? ((Addr.mk b1 0 none).add 6) = some (Value.bool x44)) ∧
          st ((Addr.mk b26 0 none).add 6) [(Value.bool x55)] w18 fun w19 =>
          (w19.cell? ((Addr.mk b1 0 none).add 7) = some (Value.bool x56)) ∧
          st ((Addr.mk b26 0 none).add 7) [(Value.bool true)] w19 fun w20 =>
          J41 () w20
          )
          (
          ld Value.bool ((Addr.mk b2 0 none).add 7) w11 fun x61 =>
          st ((Addr.mk b26 0 none).add 4) [(Value.bool true)] w11 fun w21 =>
          (w21.cell? ((Addr.mk b2 0 none).add 7) = some (Value.bool x61)) ∧
          (w21.cell? ((Addr.mk b1 0 none).add 7) = some (Value.bool x56)) ∧
          (w21.cell? ((Addr.mk b2 0 none).add 6) = some (Value.bool x55)) ∧
          (w21.cell? ((Addr.mk b1 0 none).add 6) = some (Value.bool x44)) ∧
          st ((Addr.mk b26 0 none).add 6) [(Value.bool x55)] w21 fun w22 =>
          (w22.cell? ((Addr.mk b2 0 none).add 7) = some (Value.bool x61)) ∧
          (w22.cell? ((Addr.mk b1 0 none).add 7) = some (Value.bool x56)) ∧
          st ((Addr.mk b26 0 none).add 7) [(Value.bool x61)] w22 fun w23 =>
          J41 () w23
          )
        )
      )
      (
      ld Value.bool ((Addr.mk b2 0 none).add 4) w11 fun x65 =>
      ld Value.bool ((Addr.mk b1 0 none).add 6) w11 fun x66 =>
      cnd (x66)
        (
        ld Value.bool ((Addr.mk b1 0 none).add 7) w11 fun x68 =>
        cnd (x68)
          (
          st ((Addr.mk b26 0 none).add 4) [(Value.bool x65)] w11 fun w24 =>
          (w24.cell? ((Addr.mk b1 0 none).add 7) = some (Value.bool x68)) ∧
          (w24.cell? ((Addr.mk b1 0 none).add 6) = some (Value.bool x66)) ∧
          st ((Addr.mk b26 0 none).add 6) [(Value.bool true)] w24 fun w25 =>
          (w25.cell? ((Addr.mk b1 0 none).add 7) = some (Value.bool x68)) ∧
          st ((Addr.mk b26 0 none).add 7) [(Value.bool true)] w25 fun w26 =>
          J41 () w26
          )
          (
          ld Value.bool ((Addr.mk b2 0 none).add 7) w11 fun x73 =>
          st ((Addr.mk b26 0 none).add 4) [(Value.bool x65)] w11 fun w27 =>
          (w27.cell? ((Addr.mk b2 0 none).add 7) = some (Value.bool x73)) ∧
          (w27.cell? ((Addr.mk b1 0 none).add 7) = some (Value.bool x68)) ∧
          (w27.cell? ((Addr.mk b1 0 none).add 6) = some (Value.bool x66)) ∧
          st ((Addr.mk b26 0 none).add 6) [(Value.bool true)] w27 fun w28 =>
          (w28.cell? ((Addr.mk b2 0 none).add 7) = some (Value.bool x73)) ∧
          (w28.cell? ((Addr.mk b1 0 none).add 7) = some (Value.bool x68)) ∧
          st ((Addr.mk b26 0 none).add 7) [(Value.bool x73)] w28 fun w29 =>
          J41 () w29
          )
        )
        (
        ld Value.bool ((Addr.mk b2 0 none).add 6) w11 fun x77 =>
        ld Value.bool ((Addr.mk b1 0 none).add 7) w11 fun x78 =>
        cnd (x78)
          (
          st ((Addr.mk b26 0 none).add 4) [(Value.bool x65)] w11 fun w30 =>
          (w30.cell? ((Addr.mk b1 0 none).add 7) = some (Value.bool x78)) ∧
          (w30.cell? ((Addr.mk b2 0 none).add 6) = some (Value.bool x77)) ∧
          (w30.cell? ((Addr.mk b1 0 none).add 6) = some (Value.bool x66)) ∧
          st ((Addr.mk b26 0 none).add 6) [(Value.bool x77)] w30 fun w31 =>
          (w31.cell? ((Addr.mk b1 0 none).add 7) = some (Value.bool x78)) ∧
          st ((Addr.mk b26 0 none).add 7) [(Value.bool true)] w31 fun w32 =>
          J41 () w32
          )
          (
          ld Value.bool ((Addr.mk b2 0 none).add 7) w11 fun x83 =>
          st ((Addr.mk b26 0 none).add 4) [(Value.bool x65)] w11 fun w33 =>
          (w33.cell? ((Addr.mk b2 0 none).add 7) = some (Value.bool x83)) ∧
          (w33.cell? ((Addr.mk b1 0 none).add 7) = some (Value.bool x78)) ∧
          (w33.cell? ((Addr.mk b2 0 none).add 6) = some (Value.bool x77)) ∧
          (w33.cell? ((Addr.mk b1 0 none).add 6) = some (Value.bool x66)) ∧
          st ((Addr.mk b26 0 none).add 6) [(Value.bool x77)] w33 fun w34 =>
          (w34.cell? ((Addr.mk b2 0 none).add 7) = some (Value.bool x83)) ∧
          (w34.cell? ((Addr.mk b1 0 none).add 7) = some (Value.bool x78)) ∧
          st ((Addr.mk b26 0 none).add 7) [(Value.bool x83)] w34 fun w35 =>
          J41 () w35
          )
        )
      )
  )
  fun _l87 w36 =>
  jn (fun (J89 : Unit → World → Prop) => tk w36 fun w37 =>
    ld (Value.int .i64) ((Addr.mk b1 0 none).add 8) w37 fun x90 =>
    ld (Value.int .i64) ((Addr.mk b2 0 none).add 8) w37 fun x91 =>
    ld (Value.int .i64) ((Addr.mk b1 0 none).add 9) w37 fun x92 =>
    ld (Value.int .i64) ((Addr.mk b2 0 none).add 9) w37 fun x93 =>
    ld (Value.int .i64) ((Addr.mk b1 0 none).add 16) w37 fun x94 =>
    ld (Value.int .i64) ((Addr.mk b2 0 none).add 16) w37 fun x95 =>
    st ((Addr.mk b26 0 none).add 8) [(Value.int .i64 (max x90 x91))] w37 fun w38 =>
    (w38.cell? ((Addr.mk b2 0 none).add 16) = some (Value.int .i64 x95)) ∧
    (w38.cell? ((Addr.mk b1 0 none).add 16) = some (Value.int .i64 x94)) ∧
    (w38.cell? ((Addr.mk b2 0 none).add 9) = some (Value.int .i64 x93)) ∧
    (w38.cell? ((Addr.mk b1 0 none).add 9) = some (Value.int .i64 x92)) ∧
    st ((Addr.mk b26 0 none).add 9) [(Value.int .i64 (max x92 x93))] w38 fun w39 =>
    (w39.cell? ((Addr.mk b2 0 none).add 16) = some (Value.int .i64 x95)) ∧
    (w39.cell? ((Addr.mk b1 0 none).add 16) = some (Value.int .i64 x94)) ∧
    st ((Addr.mk b26 0 none).add 16) [(Value.int .i64 (max x94 x95))] w39 fun w40 =>
    J89 () w40
  )
  fun _l99 w41 =>
  jn (fun (J101 : Unit → World → Prop) => tk w41 fun w42 =>
    ld (Value.int .i64) ((Addr.mk b1 0 none).add 10) w42 fun x102 =>
    ld (Value.int .i64) ((Addr.mk b2 0 none).add 10) w42 fun x103 =>
    ld (Value.int .i64) ((Addr.mk b1 0 none).add 11) w42 fun x104 =>
    ld (Value.int .i64) ((Addr.mk b2 0 none).add 11) w42 fun x105 =>
    st ((Addr.mk b26 0 none).add 10) [(Value.int .i64 (max x102 x103))] w42 fun w43 =>
    (w43.cell? ((Addr.mk b2 0 none).add 11) = some (Value.int .i64 x105)) ∧
    (w43.cell? ((Addr.mk b1 0 none).add 11) = some (Value.int .i64 x104)) ∧
    st ((Addr.mk b26 0 none).add 11) [(Value.int .i64 (max x104 x105))] w43 fun w44 =>
    J101 () w44
  )
  fun _l108 w45 =>
  L23 (Addr.mk b1 0 none) w45 fun x109 x110 x111 x112 x113 x114 x115 x116 x117 x118 x119 x120 x121 x122 x123 x124 x125 x126 x127 x128 x129 x130 =>
  L23 (Addr.mk b2 0 none) w45 fun x131 x132 x133 x134 x135 x136 x137 x138 x139 x140 x141 x142 x143 x144 x145 x146 x147 x148 x149 x150 x151 x152 =>
  callC Try.prog 34 #[(V23 x109 x110 x111 x112 x113 x114 x115 x116 x117 x118 x119 x120 x121 x122 x123 x124 x125 x126 x127 x128 x129 x130), (V23 x131 x132 x133 x134 x135 x136 x137 x138 x139 x140 x141 x142 x143 x144 x145 x146 x147 x148 x149 x150 x151 x152)] (fun (r : Int) => (Value.int .i64 r)) w45 fun r153 w46 =>
  st ((Addr.mk b26 0 none).add 2) [(Value.int .i64 r153)] w46 fun w47 =>
  ld Sl.v ((Addr.mk b1 0 none).add 12) w47 fun x155 =>
  callC Try.prog 35 #[(Sl.v x155)] (fun (r : Sl) => (Sl.v r)) w47 fun r156 w48 =>
  st ((Addr.mk b26 0 none).add 12) [(Sl.v r156)] w48 fun w49 =>
  ld Sl.v ((Addr.mk b2 0 none).add 12) w49 fun x158 =>
  lp (fun (next159 : Int → World → Prop) l159 w50 =>
    cnd (decide (l159 < (x158.len : Int)))
      (
      jn (fun (J161 : Unit → World → Prop) =>
        ix x158 l159 1 fun p163 =>
        ld Value.string p163 w50 fun x164 =>
        ld Sl.v ((Addr.mk b1 0 none).add 12) w50 fun x165 =>
        callC Try.prog 27 #[(Sl.v x165), (Value.string x164)] (fun (r : Bool) => (Value.bool r)) w50 fun r166 w52 =>
        cnd (!r166)
          (
          ld Sl.v ((Addr.mk b26 0 none).add 12) w52 fun x168 =>
          nw 9 #[(Value.string x164)] w52 fun b169 w53 =>
          rn Try.prog (Builtin.append_ #[22, 22] 22 #[Sl.v x168, Sl.v (⟨some ⟨b169, 0, none⟩, 1, 1⟩ : Sl)]) Sl.v w53 fun r170 w54 =>
          st ((Addr.mk b26 0 none).add 12) [(Sl.v r170)] w54 fun w55 =>
          J161 () w55
          )
          (
          J161 () w52
          )
      )
      fun _l162 w51 =>
      next159 (IntKind.i64.wrap (l159 + 1)) w51
      )
      (
      L23 (Addr.mk b26 0 none) w50 fun x172 x173 x174 x175 x176 x177 x178 x179 x180 x181 x182 x183 x184 x185 x186 x187 x188 x189 x190 x191 x192 x193 =>
      st (Addr.mk b3 0 none) (S23 x172 x173 x174 x175 x176 x177 x178 x179 x180 x181 x182 x183 x184 x185 x186 x187 x188 x189 x190 x191 x192 x193) w50 fun w56 =>
      L23 (Addr.mk b3 0 none) w56 fun x195 x196 x197 x198 x199 x200 x201 x202 x203 x204 x205 x206 x207 x208 x209 x210 x211 x212 x213 x214 x215 x216 =>
      K (x195, x196, x197, x198, x199, x200, x201, x202, x203, x204, x205, x206, x207, x208, x209, x210, x211, x212, x213, x214, x215, x216) w56
      )
  ) 0 w49
set_option maxRecDepth 100000 in
theorem D17 (p0_0 : ByteArray) (p0_1 : Int) (p0_2 : Int) (p0_3 : Int) (p0_4 : Bool) (p0_5 : Int) (p0_6 : Bool) (p0_7 : Bool) (p0_8 : Int) (p0_9 : Int) (p0_10 : Int) (p0_11 : Int) (p0_12 : Sl) (p0_13 : Int) (p0_14 : Int) (p0_15 : Int) (p0_16 : Int) (p0_17 : Bool) (p0_18 : Int) (p0_19 : Int) (p0_20 : Int) (p0_21 : Int) (p1_0 : ByteArray) (p1_1 : Int) (p1_2 : Int) (p1_3 : Int) (p1_4 : Bool) (p1_5 : Int) (p1_6 : Bool) (p1_7 : Bool) (p1_8 : Int) (p1_9 : Int) (p1_10 : Int) (p1_11 : Int) (p1_12 : Sl) (p1_13 : Int) (p1_14 : Int) (p1_15 : Int) (p1_16 : Int) (p1_17 : Bool) (p1_18 : Int) (p1_19 : Int) (p1_20 : Int) (p1_21 : Int) (w0 : World) (K : T23 → World → Prop) (h : F17 p0_0 p0_1 p0_2 p0_3 p0_4 p0_5 p0_6 p0_7 p0_8 p0_9 p0_10 p0_11 p0_12 p0_13 p0_14 p0_15 p0_16 p0_17 p0_18 p0_19 p0_20 p0_21 p1_0 p1_1 p1_2 p1_3 p1_4 p1_5 p1_6 p1_7 p1_8 p1_9 p1_10 p1_11 p1_12 p1_13 p1_14 p1_15 p1_16 p1_17 p1_18 p1_19 p1_20 p1_21 w0 K) : callC Try.prog 17 #[(V23 p0_0 p0_1 p0_2 p0_3 p0_4 p0_5 p0_6 p0_7 p0_8 p0_9 p0_10 p0_11 p0_12 p0_13 p0_14 p0_15 p0_16 p0_17 p0_18 p0_19 p0_20 p0_21), (V23 p1_0 p1_1 p1_2 p1_3 p1_4 p1_5 p1_6 p1_7 p1_8 p1_9 p1_10 p1_11 p1_12 p1_13 p1_14 p1_15 p1_16 p1_17 p1_18 p1_19 p1_20 p1_21)] E23 w0 K := by
  unfold F17 at h
  refine calls_of_wpC Try.func17 rfl 106 rfl (by simp) ?_
  intro ρ hρ
  have e0 : ρ 0 = (V23 p0_0 p0_1 p0_2 p0_3 p0_4 p0_5 p0_6 p0_7 p0_8 p0_9 p0_10 p0_11 p0_12 p0_13 p0_14 p0_15 p0_16 p0_17 p0_18 p0_19 p0_20 p0_21) := hρ 0
  have e1 : ρ 1 = (V23 p1_0 p1_1 p1_2 p1_3 p1_4 p1_5 p1_6 p1_7 p1_8 p1_9 p1_10 p1_11 p1_12 p1_13 p1_14 p1_15 p1_16 p1_17 p1_18 p1_19 p1_20 p1_21) := hρ 1
  clear hρ
  refine wpC_seq ?_
  refine wpC_region ?_
  obtain ⟨b1, hb1⟩ : ∃ u, u = w0.heap.size := ⟨_, rfl⟩
  obtain ⟨w1, hw1⟩ : ∃ u, u = w0.alloc (.cells (A23 p0_0 p0_1 p0_2 p0_3 p0_4 p0_5 p0_6 p0_7 p0_8 p0_9 p0_10 p0_11 p0_12 p0_13 p0_14 p0_15 p0_16 p0_17 p0_18 p0_19 p0_20 p0_21) 24) := ⟨_, rfl⟩
  replace h := h b1 w1 hb1 hw1
  refine wpR_val (v := (Value.pointer (some (Addr.mk b1 0 none)))) (w' := w1) rfl rfl rfl ((x_box (v := (V23 p0_0 p0_1 p0_2 p0_3 p0_4 p0_5 p0_6 p0_7 p0_8 p0_9 p0_10 p0_11 p0_12 p0_13 p0_14 p0_15 p0_16 p0_17 p0_18 p0_19 p0_20 p0_21)) rfl e0).trans (by rw [hb1, hw1]; rfl)) ?_
  obtain ⟨b2, hb2⟩ : ∃ u, u = w1.heap.size := ⟨_, rfl⟩
  obtain ⟨w2, hw2⟩ : ∃ u, u = w1.alloc (.cells (A23 p1_0 p1_1 p1_2 p1_3 p1_4 p1_5 p1_6 p1_7 p1_8 p1_9 p1_10 p1_11 p1_12 p1_13 p1_14 p1_15 p1_16 p1_17 p1_18 p1_19 p1_20 p1_21) 24) := ⟨_, rfl⟩
  replace h := h b2 w2 hb2 hw2
  refine wpR_val (v := (Value.pointer (some (Addr.mk b2 0 none)))) (w' := w2) rfl rfl rfl ((x_box (v := (V23 p1_0 p1_1 p1_2 p1_3 p1_4 p1_5 p1_6 p1_7 p1_8 p1_9 p1_10 p1_11 p1_12 p1_13 p1_14 p1_15 p1_16 p1_17 p1_18 p1_19 p1_20 p1_21)) rfl e1).trans (by rw [hb2, hw2]; rfl)) ?_
  obtain ⟨b3, hb3⟩ : ∃ u, u = w2.heap.size := ⟨_, rfl⟩
  obtain ⟨w3, hw3⟩ : ∃ u, u = w2.alloc (.cells (A23 (ByteArray.mk #[]) 0 0 0 false 0 false false 0 0 0 0 Sl.nil 0 0 0 0 false 0 0 0 0) 24) := ⟨_, rfl⟩
  replace h := h b3 w3 hb3 hw3
  refine wpR_val (v := (Value.pointer (some (Addr.mk b3 0 none)))) (w' := w3) rfl rfl rfl ((x_alloc rfl ZV_24).trans (by rw [hb3, hw3]; rfl)) ?_
  refine wpR_nil ?_
  refine wpC_seq ?_
  refine wpC_cut (fun ρ => ρ 2 = (Value.pointer (some (Addr.mk b1 0 none))) ∧ ρ 3 = (Value.pointer (some (Addr.mk b2 0 none))) ∧ ρ 4 = (Value.pointer (some (Addr.mk b3 0 none))) ∧ True) ⟨rfl, rfl, rfl, trivial⟩ ?_
  rintro ρ ⟨e2, e3, e4, -⟩
  refine wpC_region ?_
  obtain ⟨x4, q4, x5, q5, x6, q6, x7, q7, x8, q8, x9, q9, x10, q10, x11, q11, x12, q12, x13, q13, x14, q14, x15, q15, x16, q16, x17, q17, x18, q18, x19, q19, x20, q20, x21, q21, x22, q22, x23, q23, x24, q24, x25, q25, h⟩ := h
  refine wpR_val (v := (V23 x4 x5 x6 x7 x8 x9 x10 x11 x12 x13 x14 x15 x16 x17 x18 x19 x20 x21 x22 x23 x24 x25)) (w' := w3) rfl rfl rfl (x_loadN (S23 x4 x5 x6 x7 x8 x9 x10 x11 x12 x13 x14 x15 x16 x17 x18 x19 x20 x21 x22 x23 x24 x25) rfl e2 SH_24 (K23 ⟨q4, q5, q6, q7, q8, q9, q10, q11, q12, q13, q14, q15, q16, q17, q18, q19, q20, q21, q22, q23, q24, q25⟩)) ?_
  obtain ⟨b26, hb26⟩ : ∃ u, u = w3.heap.size := ⟨_, rfl⟩
  obtain ⟨w4, hw26⟩ : ∃ u, u = w3.alloc (.cells (A23 (ByteArray.mk #[]) 0 0 0 false 0 false false 0 0 0 0 Sl.nil 0 0 0 0 false 0 0 0 0) 24) := ⟨_, rfl⟩
  replace h := h b26 w4 hb26 hw26
  refine wpR_val (v := (Value.pointer (some (Addr.mk b26 0 none)))) (w' := w4) rfl rfl rfl ((x_alloc rfl ZV_24).trans (by rw [hb26, hw26]; rfl)) ?_
  obtain ⟨q27, h⟩ := h
  obtain ⟨w5, hw27⟩ : ∃ u, u = setAll w4 (Addr.mk b26 0 none) (S23 x4 x5 x6 x7 x8 x9 x10 x11 x12 x13 x14 x15 x16 x17 x18 x19 x20 x21 x22 x23 x24 x25) 0 := ⟨_, rfl⟩
  replace h := h w5 hw27
  refine wpR_skp (w' := w5) rfl rfl ((x_store (v := (V23 x4 x5 x6 x7 x8 x9 x10 x11 x12 x13 x14 x15 x16 x17 x18 x19 x20 x21 x22 x23 x24 x25)) rfl rfl rfl SZ_24 (ones (by rfl)) q27).trans (by rw [hw27]; rfl)) ?_
  refine wpR_nil ?_
  refine wpC_seq ?_
  refine wpC_cut (fun ρ => ρ 2 = (Value.pointer (some (Addr.mk b1 0 none))) ∧ ρ 3 = (Value.pointer (some (Addr.mk b2 0 none))) ∧ ρ 4 = (Value.pointer (some (Addr.mk b3 0 none))) ∧ ρ 5 = (Value.pointer (some (Addr.mk b26 0 none))) ∧ True) ⟨e2, e3, e4, rfl, trivial⟩ ?_
  rintro ρ ⟨e2, e3, e4, e5, -⟩
  obtain ⟨J29, h, hk⟩ := h
  refine wpC_drawJ (by kernel_rfl) (fun (x : Unit) ρ => ρ 2 = (Value.pointer (some (Addr.mk b1 0 none))) ∧ ρ 3 = (Value.pointer (some (Addr.mk b2 0 none))) ∧ ρ 4 = (Value.pointer (some (Addr.mk b3 0 none))) ∧ ρ 5 = (Value.pointer (some (Addr.mk b26 0 none))) ∧ True) J29 ?_ ?_
  · clear hk
    unfold tk at h
    generalize w5.drew = w6 at h ⊢
    refine wpD_take (v := (Value.pointer (some ((Addr.mk b1 0 none).add 1)))) 0 (fun _ => True) rfl (by kernel_rfl) (by kernel_rfl) (by kernel_rfl) rfl rfl rfl trivial (fun w _ => (x_fieldAddr rfl e2 FA_24_1)) ?_
    obtain ⟨x30, q30, h⟩ := h
    refine wpD_take (v := (Value.int .i64 x30)) 1 (fun w => w.cell? ((Addr.mk b1 0 none).add 1) = some (Value.int .i64 x30)) rfl (by kernel_rfl) (by kernel_rfl) (by kernel_rfl) rfl rfl rfl q30 (fun w q30 => (x_load1 rfl rfl SH_3 q30)) ?_
    refine wpD_take (v := (Value.pointer (some ((Addr.mk b2 0 none).add 1)))) 2 (fun _ => True) rfl (by kernel_rfl) (by kernel_rfl) (by kernel_rfl) rfl rfl rfl trivial (fun w _ => (x_fieldAddr rfl e3 FA_24_1)) ?_
    obtain ⟨x31, q31, h⟩ := h
    refine wpD_take (v := (Value.int .i64 x31)) 3 (fun w => w.cell? ((Addr.mk b2 0 none).add 1) = some (Value.int .i64 x31)) rfl (by kernel_rfl) (by kernel_rfl) (by kernel_rfl) rfl rfl rfl q31 (fun w q31 => (x_load1 rfl rfl SH_3 q31)) ?_
    refine wpD_take (v := (Value.int .i64 (max x30 x31))) 4 (fun _ => True) rfl (by kernel_rfl) (by kernel_rfl) (by kernel_rfl) rfl rfl rfl trivial (fun w _ => (x_max rfl rfl rfl)) ?_
    refine wpD_take (v := (Value.pointer (some ((Addr.mk b1 0 none).add 3)))) 5 (fun _ => True) rfl (by kernel_rfl) (by kernel_rfl) (by kernel_rfl) rfl rfl rfl trivial (fun w _ => (x_fieldAddr rfl e2 FA_24_3)) ?_
    obtain ⟨x32, q32, h⟩ := h
    refine wpD_take (v := (Value.int .i64 x32)) 6 (fun w => w.cell? ((Addr.mk b1 0 none).add 3) = some (Value.int .i64 x32)) rfl (by kernel_rfl) (by kernel_rfl) (by kernel_rfl) rfl rfl rfl q32 (fun w q32 => (x_load1 rfl rfl SH_3 q32)) ?_
    refine wpD_take (v := (Value.pointer (some ((Addr.mk b2 0 none).add 3)))) 7 (fun _ => True) rfl (by kernel_rfl) (by kernel_rfl) (by kernel_rfl) rfl rfl rfl trivial (fun w _ => (x_fieldAddr rfl e3 FA_24_3)) ?_
    obtain ⟨x33, q33, h⟩ := h
    refine wpD_take (v := (Value.int .i64 x33)) 8 (fun w => w.cell? ((Addr.mk b2 0 none).add 3) = some (Value.int .i64 x33)) rfl (by kernel_rfl) (by kernel_rfl) (by kernel_rfl) rfl rfl rfl q33 (fun w q33 => (x_load1 rfl rfl SH_3 q33)) ?_
    refine wpD_take (v := (Value.int .i64 (max x32 x33))) 9 (fun _ => True) rfl (by kernel_rfl) (by kernel_rfl) (by kernel_rfl) rfl rfl rfl trivial (fun w _ => (x_max rfl rfl rfl)) ?_
    refine wpD_take (v := (Value.pointer (some ((Addr.mk b1 0 none).add 5)))) 10 (fun _ => True) rfl (by kernel_rfl) (by kernel_rfl) (by kernel_rfl) rfl rfl rfl trivial (fun w _ => (x_fieldAddr rfl e2 FA_24_5)) ?_
    obtain ⟨x34, q34, h⟩ := h
    refine wpD_take (v := (Value.int .i64 x34)) 11 (fun w => w.cell? ((Addr.mk b1 0 none).add 5) = some (Value.int .i64 x34)) rfl (by kernel_rfl) (by kernel_rfl) (by kernel_rfl) rfl rfl rfl q34 (fun w q34 => (x_load1 rfl rfl SH_3 q34)) ?_
    refine wpD_take (v := (Value.pointer (some ((Addr.mk b2 0 none).add 5)))) 12 (fun _ => True) rfl (by kernel_rfl) (by kernel_rfl) (by kernel_rfl) rfl rfl rfl trivial (fun w _ => (x_fieldAddr rfl e3 FA_24_5)) ?_
    obtain ⟨x35, q35, h⟩ := h
    refine wpD_take (v := (Value.int .i64 x35)) 13 (fun w => w.cell? ((Addr.mk b2 0 none).add 5) = some (Value.int .i64 x35)) rfl (by kernel_rfl) (by kernel_rfl) (by kernel_rfl) rfl rfl rfl q35 (fun w q35 => (x_load1 rfl rfl SH_3 q35)) ?_
    refine wpD_take (v := (Value.int .i64 (max x34 x35))) 14 (fun _ => True) rfl (by kernel_rfl) (by kernel_rfl) (by kernel_rfl) rfl rfl rfl trivial (fun w _ => (x_max rfl rfl rfl)) ?_
    refine wpD_take (v := (Value.pointer (some ((Addr.mk b26 0 none).add 1)))) 15 (fun _ => True) rfl (by kernel_rfl) (by kernel_rfl) (by kernel_rfl) rfl rfl rfl trivial (fun w _ => (x_fieldAddr rfl e5 FA_24_1)) ?_
    refine wpD_all (rs := [16]) (by kernel_rfl) (by simp) (allD_cons ?_ allD_nil)
    obtain ⟨q36, h⟩ := h
    obtain ⟨w7, hw36⟩ : ∃ u, u = setAll w6 ((Addr.mk b26 0 none).add 1) [(Value.int .i64 (max x30 x31))] 0 := ⟨_, rfl⟩
    replace h := h w7 hw36
    obtain ⟨o13, h⟩ := h
    obtain ⟨o11, h⟩ := h
    obtain ⟨o8, h⟩ := h
    obtain ⟨o6, h⟩ := h
    refine stepD_skpL (L' := [(14, fun _ => True), (13, fun w => w.cell? ((Addr.mk b2 0 none).add 5) = some (Value.int .i64 x35)), (12, fun _ => True), (11, fun w => w.cell? ((Addr.mk b1 0 none).add 5) = some (Value.int .i64 x34)), (10, fun _ => True), (9, fun _ => True), (8, fun w => w.cell? ((Addr.mk b2 0 none).add 3) = some (Value.int .i64 x33)), (7, fun _ => True), (6, fun w => w.cell? ((Addr.mk b1 0 none).add 3) = some (Value.int .i64 x32)), (5, fun _ => True)]) (w' := w7) rfl rfl rfl ((x_store (v := (Value.int .i64 (max x30 x31))) rfl rfl rfl SZ_3 (ones (by rfl)) q36).trans (by rw [hw36]; rfl)) (by kernel_rfl) (held_cons trivial (held_cons o13 (held_cons trivial (held_cons o11 (held_cons trivial (held_cons trivial (held_cons o8 (held_cons trivial (held_cons o6 (held_cons trivial held_nil)))))))))) ?_
    refine wpD_take (v := (Value.pointer (some ((Addr.mk b26 0 none).add 3)))) 17 (fun _ => True) rfl (by kernel_rfl) (by kernel_rfl) (by kernel_rfl) rfl rfl rfl trivial (fun w _ => (x_fieldAddr rfl e5 FA_24_3)) ?_
    refine wpD_all (rs := [18]) (by kernel_rfl) (by simp) (allD_cons ?_ allD_nil)
    obtain ⟨q37, h⟩ := h
    obtain ⟨w8, hw37⟩ : ∃ u, u = setAll w7 ((Addr.mk b26 0 none).add 3) [(Value.int .i64 (max x32 x33))] 0 := ⟨_, rfl⟩
    replace h := h w8 hw37
    obtain ⟨o13, h⟩ := h
    obtain ⟨o11, h⟩ := h
    refine stepD_skpL (L' := [(14, fun _ => True), (13, fun w => w.cell? ((Addr.mk b2 0 none).add 5) = some (Value.int .i64 x35)), (12, fun _ => True), (11, fun w => w.cell? ((Addr.mk b1 0 none).add 5) = some (Value.int .i64 x34)), (10, fun _ => True)]) (w' := w8) rfl rfl rfl ((x_store (v := (Value.int .i64 (max x32 x33))) rfl rfl rfl SZ_3 (ones (by rfl)) q37).trans (by rw [hw37]; rfl)) (by kernel_rfl) (held_cons trivial (held_cons o13 (held_cons trivial (held_cons o11 (held_cons trivial held_nil))))) ?_
    refine wpD_take (v := (Value.pointer (some ((Addr.mk b26 0 none).add 5)))) 19 (fun _ => True) rfl (by kernel_rfl) (by kernel_rfl) (by kernel_rfl) rfl rfl rfl trivial (fun w _ => (x_fieldAddr rfl e5 FA_24_5)) ?_
    refine wpD_all (rs := [20]) (by kernel_rfl) (by simp) (allD_cons ?_ allD_nil)
    obtain ⟨q38, h⟩ := h
    obtain ⟨w9, hw38⟩ : ∃ u, u = setAll w8 ((Addr.mk b26 0 none).add 5) [(Value.int .i64 (max x34 x35))] 0 := ⟨_, rfl⟩
    replace h := h w9 hw38
    refine stepD_skpL (L' := []) (w' := w9) rfl rfl rfl ((x_store (v := (Value.int .i64 (max x34 x35))) rfl rfl rfl SZ_3 (ones (by rfl)) q38).trans (by rw [hw38]; rfl)) (by kernel_rfl) held_nil ?_
    exact wpD_done (by kernel_rfl) ⟨(), ⟨e2, e3, e4, e5, trivial⟩, h⟩
  clear h
  rintro l39 ρ w10 ⟨e2, e3, e4, e5, -⟩ h
  replace h := hk l39 w10 h
  clear hk
  refine wpC_seq ?_
  obtain ⟨J41, h, hk⟩ := h
  refine wpC_drawJ (by kernel_rfl) (fun (x : Unit) ρ => ρ 2 = (Value.pointer (some (Addr.mk b1 0 none))) ∧ ρ 3 = (Value.pointer (some (Addr.mk b2 0 none))) ∧ ρ 4 = (Value.pointer (some (Addr.mk b3 0 none))) ∧ ρ 5 = (Value.pointer (some (Addr.mk b26 0 none))) ∧ True) J41 ?_ ?_
  · clear hk
    unfold tk at h
    generalize w10.drew = w11 at h ⊢
    refine wpD_take (v := (Value.pointer (some ((Addr.mk b1 0 none).add 4)))) 0 (fun _ => True) rfl (by kernel_rfl) (by kernel_rfl) (by kernel_rfl) rfl rfl rfl trivial (fun w _ => (x_fieldAddr rfl e2 FA_24_4)) ?_
    obtain ⟨x42, q42, h⟩ := h
    refine wpD_take (v := (Value.bool x42)) 1 (fun w => w.cell? ((Addr.mk b1 0 none).add 4) = some (Value.bool x42)) rfl (by kernel_rfl) (by kernel_rfl) (by kernel_rfl) rfl rfl rfl q42 (fun w q42 => (x_load1 rfl rfl SH_4 q42)) ?_
    refine wpD_take (v := (Value.bool x42)) 2 (fun _ => True) rfl (by kernel_rfl) (by kernel_rfl) (by kernel_rfl) rfl rfl rfl trivial (fun w _ => (x_move (v := (Value.bool x42)) rfl rfl)) ?_
    rcases Bool.eq_false_or_eq_true (x42) with hc43 | hc43
    · replace h := h.1 hc43
      refine wpD_pass 3 rfl (by kernel_rfl) (by kernel_rfl) (by kernel_rfl) (wantN rfl rfl rfl hc43) rfl rfl ?_
      refine wpD_pass 4 rfl (by kernel_rfl) (by kernel_rfl) (by kernel_rfl) (wantN rfl rfl rfl hc43) rfl rfl ?_
      refine wpD_take (v := (Value.bool true)) 5 (fun _ => True) rfl (by kernel_rfl) (by kernel_rfl) (by kernel_rfl) rfl rfl rfl trivial (fun w _ => (x_pickT (v := (Value.bool true)) rfl rfl hc43 rfl)) ?_
      refine wpD_take (v := (Value.pointer (some ((Addr.mk b1 0 none).add 6)))) 6 (fun _ => True) rfl (by kernel_rfl) (by kernel_rfl) (by kernel_rfl) rfl rfl rfl trivial (fun w _ => (x_fieldAddr rfl e2 FA_24_6)) ?_
      obtain ⟨x44, q44, h⟩ := h
      refine wpD_take (v := (Value.bool x44)) 7 (fun w => w.cell? ((Addr.mk b1 0 none).add 6) = some (Value.bool x44)) rfl (by kernel_rfl) (by kernel_rfl) (by kernel_rfl) rfl rfl rfl q44 (fun w q44 => (x_load1 rfl rfl SH_4 q44)) ?_
      refine wpD_take (v := (Value.bool x44)) 8 (fun _ => True) rfl (by kernel_rfl) (by kernel_rfl) (by kernel_rfl) rfl rfl rfl trivial (fun w _ => (x_move (v := (Value.bool x44)) rfl rfl)) ?_
      rcases Bool.eq_false_or_eq_true (x44) with hc45 | hc45
      · replace h := h.1 hc45
        refine wpD_pass 9 rfl (by kernel_rfl) (by kernel_rfl) (by kernel_rfl) (wantN rfl rfl rfl hc45) rfl rfl ?_
        refine wpD_pass 10 rfl (by kernel_rfl) (by kernel_rfl) (by kernel_rfl) (wantN rfl rfl rfl hc45) rfl rfl ?_
        refine wpD_take (v := (Value.bool true)) 11 (fun _ => True) rfl (by kernel_rfl) (by kernel_rfl) (by kernel_rfl) rfl rfl rfl trivial (fun w _ => (x_pickT (v := (Value.bool true)) rfl rfl hc45 rfl)) ?_
        refine wpD_take (v := (Value.pointer (some ((Addr.mk b1 0 none).add 7)))) 12 (fun _ => True) rfl (by kernel_rfl) (by kernel_rfl) (by kernel_rfl) rfl rfl rfl trivial (fun w _ => (x_fieldAddr rfl e2 FA_24_7)) ?_
        obtain ⟨x46, q46, h⟩ := h
        refine wpD_take (v := (Value.bool x46)) 13 (fun w => w.cell? ((Addr.mk b1 0 none).add 7) = some (Value.bool x46)) rfl (by kernel_rfl) (by kernel_rfl) (by kernel_rfl) rfl rfl rfl q46 (fun w q46 => (x_load1 rfl rfl SH_4 q46)) ?_
        refine wpD_take (v := (Value.bool x46)) 14 (fun _ => True) rfl (by kernel_rfl) (by kernel_rfl) (by kernel_rfl) rfl rfl rfl trivial (fun w _ => (x_move (v := (Value.bool x46)) rfl rfl)) ?_
        rcases Bool.eq_false_or_eq_true (x46) with hc47 | hc47
        · replace h := h.1 hc47
          refine wpD_pass 15 rfl (by kernel_rfl) (by kernel_rfl) (by kernel_rfl) (wantN rfl rfl rfl hc47) rfl rfl ?_
          refine wpD_pass 16 rfl (by kernel_rfl) (by kernel_rfl) (by kernel_rfl) (wantN rfl rfl rfl hc47) rfl rfl ?_
          refine wpD_take (v := (Value.bool true)) 17 (fun _ => True) rfl (by kernel_rfl) (by kernel_rfl) (by kernel_rfl) rfl rfl rfl trivial (fun w _ => (x_pickT (v := (Value.bool true)) rfl rfl hc47 rfl)) ?_
          refine wpD_take (v := (Value.pointer (some ((Addr.mk b26 0 none).add 4)))) 18 (fun _ => True) rfl (by kernel_rfl) (by kernel_rfl) (by kernel_rfl) rfl rfl rfl trivial (fun w _ => (x_fieldAddr rfl e5 FA_24_4)) ?_
          refine wpD_all (rs := [19]) (by kernel_rfl) (by simp) (allD_cons ?_ allD_nil)
          obtain ⟨q48, h⟩ := h
          obtain ⟨w12, hw48⟩ : ∃ u, u = setAll w11 ((Addr.mk b26 0 none).add 4) [(Value.bool true)] 0 := ⟨_, rfl⟩
          replace h := h w12 hw48
          obtain ⟨o13, h⟩ := h
          obtain ⟨o7, h⟩ := h
          refine stepD_skpL (L' := [(17, fun _ => True), (16, fun _ => True), (15, fun _ => True), (13, fun w => w.cell? ((Addr.mk b1 0 none).add 7) = some (Value.bool x46)), (12, fun _ => True), (11, fun _ => True), (10, fun _ => True), (9, fun _ => True), (8, fun _ => True), (7, fun w => w.cell? ((Addr.mk b1 0 none).add 6) = some (Value.bool x44)), (6, fun _ => True)]) (w' := w12) rfl rfl rfl ((x_store (v := (Value.bool true)) rfl rfl rfl SZ_4 (ones (by rfl)) q48).trans (by rw [hw48]; rfl)) (by kernel_rfl) (held_cons trivial (held_cons trivial (held_cons trivial (held_cons o13 (held_cons trivial (held_cons trivial (held_cons trivial (held_cons trivial (held_cons trivial (held_cons o7 (held_cons trivial held_nil))))))))))) ?_
          refine wpD_take (v := (Value.pointer (some ((Addr.mk b26 0 none).add 6)))) 20 (fun _ => True) rfl (by kernel_rfl) (by kernel_rfl) (by kernel_rfl) rfl rfl rfl trivial (fun w _ => (x_fieldAddr rfl e5 FA_24_6)) ?_
          refine wpD_all (rs := [21]) (by kernel_rfl) (by simp) (allD_cons ?_ allD_nil)
          obtain ⟨q49, h⟩ := h
          obtain ⟨w13, hw49⟩ : ∃ u, u = setAll w12 ((Addr.mk b26 0 none).add 6) [(Value.bool true)] 0 := ⟨_, rfl⟩
          replace h := h w13 hw49
          obtain ⟨o13, h⟩ := h
          refine stepD_skpL (L' := [(17, fun _ => True), (16, fun _ => True), (15, fun _ => True), (13, fun w => w.cell? ((Addr.mk b1 0 none).add 7) = some (Value.bool x46)), (12, fun _ => True)]) (w' := w13) rfl rfl rfl ((x_store (v := (Value.bool true)) rfl rfl rfl SZ_4 (ones (by rfl)) q49).trans (by rw [hw49]; rfl)) (by kernel_rfl) (held_cons trivial (held_cons trivial (held_cons trivial (held_cons o13 (held_cons trivial held_nil))))) ?_
          refine wpD_take (v := (Value.pointer (some ((Addr.mk b26 0 none).add 7)))) 22 (fun _ => True) rfl (by kernel_rfl) (by kernel_rfl) (by kernel_rfl) rfl rfl rfl trivial (fun w _ => (x_fieldAddr rfl e5 FA_24_7)) ?_
          refine wpD_all (rs := [23]) (by kernel_rfl) (by simp) (allD_cons ?_ allD_nil)
          obtain ⟨q50, h⟩ := h
          obtain ⟨w14, hw50⟩ : ∃ u, u = setAll w13 ((Addr.mk b26 0 none).add 7) [(Value.bool true)] 0 := ⟨_, rfl⟩
          replace h := h w14 hw50
          refine stepD_skpL (L' := []) (w' := w14) rfl rfl rfl ((x_store (v := (Value.bool true)) rfl rfl rfl SZ_4 (ones (by rfl)) q50).trans (by rw [hw50]; rfl)) (by kernel_rfl) held_nil ?_
          exact wpD_done (by kernel_rfl) ⟨(), ⟨e2, e3, e4, e5, trivial⟩, h⟩
        · replace h := h.2 hc47
          refine wpD_take (v := (Value.pointer (some ((Addr.mk b2 0 none).add 7)))) 15 (fun _ => True) rfl (by kernel_rfl) (by kernel_rfl) (by kernel_rfl) (wantG rfl rfl rfl hc47) rfl rfl trivial (fun w _ => (x_fieldAddr rfl e3 FA_24_7)) ?_
          obtain ⟨x51, q51, h⟩ := h
          refine wpD_take (v := (Value.bool x51)) 16 (fun w => w.cell? ((Addr.mk b2 0 none).add 7) = some (Value.bool x51)) rfl (by kernel_rfl) (by kernel_rfl) (by kernel_rfl) (wantG rfl rfl rfl hc47) rfl rfl q51 (fun w q51 => (x_load1 rfl rfl SH_4 q51)) ?_
          refine wpD_take (v := (Value.bool x51)) 17 (fun _ => True) rfl (by kernel_rfl) (by kernel_rfl) (by kernel_rfl) rfl rfl rfl trivial (fun w _ => (x_pickF (v := (Value.bool x51)) rfl rfl hc47 rfl)) ?_
          refine wpD_take (v := (Value.pointer (some ((Addr.mk b26 0 none).add 4)))) 18 (fun _ => True) rfl (by kernel_rfl) (by kernel_rfl) (by kernel_rfl) rfl rfl rfl trivial (fun w _ => (x_fieldAddr rfl e5 FA_24_4)) ?_
          refine wpD_all (rs := [19]) (by kernel_rfl) (by simp) (allD_cons ?_ allD_nil)
          obtain ⟨q52, h⟩ := h
          obtain ⟨w15, hw52⟩ : ∃ u, u = setAll w11 ((Addr.mk b26 0 none).add 4) [(Value.bool true)] 0 := ⟨_, rfl⟩
          replace h := h w15 hw52
          obtain ⟨o16, h⟩ := h
          obtain ⟨o13, h⟩ := h
          obtain ⟨o7, h⟩ := h
          refine stepD_skpL (L' := [(17, fun _ => True), (16, fun w => w.cell? ((Addr.mk b2 0 none).add 7) = some (Value.bool x51)), (15, fun _ => True), (13, fun w => w.cell? ((Addr.mk b1 0 none).add 7) = some (Value.bool x46)), (12, fun _ => True), (11, fun _ => True), (10, fun _ => True), (9, fun _ => True), (8, fun _ => True), (7, fun w => w.cell? ((Addr.mk b1 0 none).add 6) = some (Value.bool x44)), (6, fun _ => True)]) (w' := w15) rfl rfl rfl ((x_store (v := (Value.bool true)) rfl rfl rfl SZ_4 (ones (by rfl)) q52).trans (by rw [hw52]; rfl)) (by kernel_rfl) (held_cons trivial (held_cons o16 (held_cons trivial (held_cons o13 (held_cons trivial (held_cons trivial (held_cons trivial (held_cons trivial (held_cons trivial (held_cons o7 (held_cons trivial held_nil))))))))))) ?_
          refine wpD_take (v := (Value.pointer (some ((Addr.mk b26 0 none).add 6)))) 20 (fun _ => True) rfl (by kernel_rfl) (by kernel_rfl) (by kernel_rfl) rfl rfl rfl trivial (fun w _ => (x_fieldAddr rfl e5 FA_24_6)) ?_
          refine wpD_all (rs := [21]) (by kernel_rfl) (by simp) (allD_cons ?_ allD_nil)
          obtain ⟨q53, h⟩ := h
          obtain ⟨w16, hw53⟩ : ∃ u, u = setAll w15 ((Addr.mk b26 0 none).add 6) [(Value.bool true)] 0 := ⟨_, rfl⟩
          replace h := h w16 hw53
          obtain ⟨o16, h⟩ := h
          obtain ⟨o13, h⟩ := h
          refine stepD_skpL (L' := [(17, fun _ => True), (16, fun w => w.cell? ((Addr.mk b2 0 none).add 7) = some (Value.bool x51)), (15, fun _ => True), (13, fun w => w.cell? ((Addr.mk b1 0 none).add 7) = some (Value.bool x46)), (12, fun _ => True)]) (w' := w16) rfl rfl rfl ((x_store (v := (Value.bool true)) rfl rfl rfl SZ_4 (ones (by rfl)) q53).trans (by rw [hw53]; rfl)) (by kernel_rfl) (held_cons trivial (held_cons o16 (held_cons trivial (held_cons o13 (held_cons trivial held_nil))))) ?_
          refine wpD_take (v := (Value.pointer (some ((Addr.mk b26 0 none).add 7)))) 22 (fun _ => True) rfl (by kernel_rfl) (by kernel_rfl) (by kernel_rfl) rfl rfl rfl trivial (fun w _ => (x_fieldAddr rfl e5 FA_24_7)) ?_
          refine wpD_all (rs := [23]) (by kernel_rfl) (by simp) (allD_cons ?_ allD_nil)
          obtain ⟨q54, h⟩ := h
          obtain ⟨w17, hw54⟩ : ∃ u, u = setAll w16 ((Addr.mk b26 0 none).add 7) [(Value.bool x51)] 0 := ⟨_, rfl⟩
          replace h := h w17 hw54
          refine stepD_skpL (L' := []) (w' := w17) rfl rfl rfl ((x_store (v := (Value.bool x51)) rfl rfl rfl SZ_4 (ones (by rfl)) q54).trans (by rw [hw54]; rfl)) (by kernel_rfl) held_nil ?_
          exact wpD_done (by kernel_rfl) ⟨(), ⟨e2, e3, e4, e5, trivial⟩, h⟩
      · replace h := h.2 hc45
        refine wpD_take (v := (Value.pointer (some ((Addr.mk b2 0 none).add 6)))) 9 (fun _ => True) rfl (by kernel_rfl) (by kernel_rfl) (by kernel_rfl) (wantG rfl rfl rfl hc45) rfl rfl trivial (fun w _ => (x_fieldAddr rfl e3 FA_24_6)) ?_
        obtain ⟨x55, q55, h⟩ := h
        refine wpD_take (v := (Value.bool x55)) 10 (fun w => w.cell? ((Addr.mk b2 0 none).add 6) = some (Value.bool x55)) rfl (by kernel_rfl) (by kernel_rfl) (by kernel_rfl) (wantG rfl rfl rfl hc45) rfl rfl q55 (fun w q55 => (x_load1 rfl rfl SH_4 q55)) ?_
        refine wpD_take (v := (Value.bool x55)) 11 (fun _ => True) rfl (by kernel_rfl) (by kernel_rfl) (by kernel_rfl) rfl rfl rfl trivial (fun w _ => (x_pickF (v := (Value.bool x55)) rfl rfl hc45 rfl)) ?_
        refine wpD_take (v := (Value.pointer (some ((Addr.mk b1 0 none).add 7)))) 12 (fun _ => True) rfl (by kernel_rfl) (by kernel_rfl) (by kernel_rfl) rfl rfl rfl trivial (fun w _ => (x_fieldAddr rfl e2 FA_24_7)) ?_
        obtain ⟨x56, q56, h⟩ := h
        refine wpD_take (v := (Value.bool x56)) 13 (fun w => w.cell? ((Addr.mk b1 0 none).add 7) = some (Value.bool x56)) rfl (by kernel_rfl) (by kernel_rfl) (by kernel_rfl) rfl rfl rfl q56 (fun w q56 => (x_load1 rfl rfl SH_4 q56)) ?_
        refine wpD_take (v := (Value.bool x56)) 14 (fun _ => True) rfl (by kernel_rfl) (by kernel_rfl) (by kernel_rfl) rfl rfl rfl trivial (fun w _ => (x_move (v := (Value.bool x56)) rfl rfl)) ?_
        rcases Bool.eq_false_or_eq_true (x56) with hc57 | hc57
        · replace h := h.1 hc57
          refine wpD_pass 15 rfl (by kernel_rfl) (by kernel_rfl) (by kernel_rfl) (wantN rfl rfl rfl hc57) rfl rfl ?_
          refine wpD_pass 16 rfl (by kernel_rfl) (by kernel_rfl) (by kernel_rfl) (wantN rfl rfl rfl hc57) rfl rfl ?_
          refine wpD_take (v := (Value.bool true)) 17 (fun _ => True) rfl (by kernel_rfl) (by kernel_rfl) (by kernel_rfl) rfl rfl rfl trivial (fun w _ => (x_pickT (v := (Value.bool true)) rfl rfl hc57 rfl)) ?_
          refine wpD_take (v := (Value.pointer (some ((Addr.mk b26 0 none).add 4)))) 18 (fun _ => True) rfl (by kernel_rfl) (by kernel_rfl) (by kernel_rfl) rfl rfl rfl trivial (fun w _ => (x_fieldAddr rfl e5 FA_24_4)) ?_
          refine wpD_all (rs := [19]) (by kernel_rfl) (by simp) (allD_cons ?_ allD_nil)
          obtain ⟨q58, h⟩ := h
          obtain ⟨w18, hw58⟩ : ∃ u, u = setAll w11 ((Addr.mk b26 0 none).add 4) [(Value.bool true)] 0 := ⟨_, rfl⟩
          replace h := h w18 hw58
          obtain ⟨o13, h⟩ := h
          obtain ⟨o10, h⟩ := h
          obtain ⟨o7, h⟩ := h
          refine stepD_skpL (L' := [(17, fun _ => True), (16, fun _ => True), (15, fun _ => True), (13, fun w => w.cell? ((Addr.mk b1 0 none).add 7) = some (Value.bool x56)), (12, fun _ => True), (11, fun _ => True), (10, fun w => w.cell? ((Addr.mk b2 0 none).add 6) = some (Value.bool x55)), (9, fun _ => True), (8, fun _ => True), (7, fun w => w.cell? ((Addr.mk b1 0 none).add 6) = some (Value.bool x44)), (6, fun _ => True)]) (w' := w18) rfl rfl rfl ((x_store (v := (Value.bool true)) rfl rfl rfl SZ_4 (ones (by rfl)) q58).trans (by rw [hw58]; rfl)) (by kernel_rfl) (held_cons trivial (held_cons trivial (held_cons trivial (held_cons o13 (held_cons trivial (held_cons trivial (held_cons o10 (held_cons trivial (held_cons trivial (held_cons o7 (held_cons trivial held_nil))))))))))) ?_
          refine wpD_take (v := (Value.pointer (some ((Addr.mk b26 0 none).add 6)))) 20 (fun _ => True) rfl (by kernel_rfl) (by kernel_rfl) (by kernel_rfl) rfl rfl rfl trivial (fun w _ => (x_fieldAddr rfl e5 FA_24_6)) ?_
          refine wpD_all (rs := [21]) (by kernel_rfl) (by simp) (allD_cons ?_ allD_nil)
          obtain ⟨q59, h⟩ := h
          obtain ⟨w19, hw59⟩ : ∃ u, u = setAll w18 ((Addr.mk b26 0 none).add 6) [(Value.bool x55)] 0 := ⟨_, rfl⟩
          replace h := h w19 hw59
          obtain ⟨o13, h⟩ := h
          refine stepD_skpL (L' := [(17, fun _ => True), (16, fun _ => True), (15, fun _ => True), (13, fun w => w.cell? ((Addr.mk b1 0 none).add 7) = some (Value.bool x56)), (12, fun _ => True)]) (w' := w19) rfl rfl rfl ((x_store (v := (Value.bool x55)) rfl rfl rfl SZ_4 (ones (by rfl)) q59).trans (by rw [hw59]; rfl)) (by kernel_rfl) (held_cons trivial (held_cons trivial (held_cons trivial (held_cons o13 (held_cons trivial held_nil))))) ?_
          refine wpD_take (v := (Value.pointer (some ((Addr.mk b26 0 none).add 7)))) 22 (fun _ => True) rfl (by kernel_rfl) (by kernel_rfl) (by kernel_rfl) rfl rfl rfl trivial (fun w _ => (x_fieldAddr rfl e5 FA_24_7)) ?_
          refine wpD_all (rs := [23]) (by kernel_rfl) (by simp) (allD_cons ?_ allD_nil)
          obtain ⟨q60, h⟩ := h
          obtain ⟨w20, hw60⟩ : ∃ u, u = setAll w19 ((Addr.mk b26 0 none).add 7) [(Value.bool true)] 0 := ⟨_, rfl⟩
          replace h := h w20 hw60
          refine stepD_skpL (L' := []) (w' := w20) rfl rfl rfl ((x_store (v := (Value.bool true)) rfl rfl rfl SZ_4 (ones (by rfl)) q60).trans (by rw [hw60]; rfl)) (by kernel_rfl) held_nil ?_
          exact wpD_done (by kernel_rfl) ⟨(), ⟨e2, e3, e4, e5, trivial⟩, h⟩
        · replace h := h.2 hc57
          refine wpD_take (v := (Value.pointer (some ((Addr.mk b2 0 none).add 7)))) 15 (fun _ => True) rfl (by kernel_rfl) (by kernel_rfl) (by kernel_rfl) (wantG rfl rfl rfl hc57) rfl rfl trivial (fun w _ => (x_fieldAddr rfl e3 FA_24_7)) ?_
          obtain ⟨x61, q61, h⟩ := h
          refine wpD_take (v := (Value.bool x61)) 16 (fun w => w.cell? ((Addr.mk b2 0 none).add 7) = some (Value.bool x61)) rfl (by kernel_rfl) (by kernel_rfl) (by kernel_rfl) (wantG rfl rfl rfl hc57) rfl rfl q61 (fun w q61 => (x_load1 rfl rfl SH_4 q61)) ?_
          refine wpD_take (v := (Value.bool x61)) 17 (fun _ => True) rfl (by kernel_rfl) (by kernel_rfl) (by kernel_rfl) rfl rfl rfl trivial (fun w _ => (x_pickF (v := (Value.bool x61)) rfl rfl hc57 rfl)) ?_
          refine wpD_take (v := (Value.pointer (some ((Addr.mk b26 0 none).add 4)))) 18 (fun _ => True) rfl (by kernel_rfl) (by kernel_rfl) (by kernel_rfl) rfl rfl rfl trivial (fun w _ => (x_fieldAddr rfl e5 FA_24_4)) ?_
          refine wpD_all (rs := [19]) (by kernel_rfl) (by simp) (allD_cons ?_ allD_nil)
          obtain ⟨q62, h⟩ := h
          obtain ⟨w21, hw62⟩ : ∃ u, u = setAll w11 ((Addr.mk b26 0 none).add 4) [(Value.bool true)] 0 := ⟨_, rfl⟩
          replace h := h w21 hw62
          obtain ⟨o16, h⟩ := h
          obtain ⟨o13, h⟩ := h
          obtain ⟨o10, h⟩ := h
          obtain ⟨o7, h⟩ := h
          refine stepD_skpL (L' := [(17, fun _ => True), (16, fun w => w.cell? ((Addr.mk b2 0 none).add 7) = some (Value.bool x61)), (15, fun _ => True), (13, fun w => w.cell? ((Addr.mk b1 0 none).add 7) = some (Value.bool x56)), (12, fun _ => True), (11, fun _ => True), (10, fun w => w.cell? ((Addr.mk b2 0 none).add 6) = some (Value.bool x55)), (9, fun _ => True), (8, fun _ => True), (7, fun w => w.cell? ((Addr.mk b1 0 none).add 6) = some (Value.bool x44)), (6, fun _ => True)]) (w' := w21) rfl rfl rfl ((x_store (v := (Value.bool true)) rfl rfl rfl SZ_4 (ones (by rfl)) q62).trans (by rw [hw62]; rfl)) (by kernel_rfl) (held_cons trivial (held_cons o16 (held_cons trivial (held_cons o13 (held_cons trivial (held_cons trivial (held_cons o10 (held_cons trivial (held_cons trivial (held_cons o7 (held_cons trivial held_nil))))))))))) ?_
          refine wpD_take (v := (Value.pointer (some ((Addr.mk b26 0 none).add 6)))) 20 (fun _ => True) rfl (by kernel_rfl) (by kernel_rfl) (by kernel_rfl) rfl rfl rfl trivial (fun w _ => (x_fieldAddr rfl e5 FA_24_6)) ?_
          refine wpD_all (rs := [21]) (by kernel_rfl) (by simp) (allD_cons ?_ allD_nil)
          obtain ⟨q63, h⟩ := h
          obtain ⟨w22, hw63⟩ : ∃ u, u = setAll w21 ((Addr.mk b26 0 none).add 6) [(Value.bool x55)] 0 := ⟨_, rfl⟩
          replace h := h w22 hw63
          obtain ⟨o16, h⟩ := h
          obtain ⟨o13, h⟩ := h
          refine stepD_skpL (L' := [(17, fun _ => True), (16, fun w => w.cell? ((Addr.mk b2 0 none).add 7) = some (Value.bool x61)), (15, fun _ => True), (13, fun w => w.cell? ((Addr.mk b1 0 none).add 7) = some (Value.bool x56)), (12, fun _ => True)]) (w' := w22) rfl rfl rfl ((x_store (v := (Value.bool x55)) rfl rfl rfl SZ_4 (ones (by rfl)) q63).trans (by rw [hw63]; rfl)) (by kernel_rfl) (held_cons trivial (held_cons o16 (held_cons trivial (held_cons o13 (held_cons trivial held_nil))))) ?_
          refine wpD_take (v := (Value.pointer (some ((Addr.mk b26 0 none).add 7)))) 22 (fun _ => True) rfl (by kernel_rfl) (by kernel_rfl) (by kernel_rfl) rfl rfl rfl trivial (fun w _ => (x_fieldAddr rfl e5 FA_24_7)) ?_
          refine wpD_all (rs := [23]) (by kernel_rfl) (by simp) (allD_cons ?_ allD_nil)
          obtain ⟨q64, h⟩ := h
          obtain ⟨w23, hw64⟩ : ∃ u, u = setAll w22 ((Addr.mk b26 0 none).add 7) [(Value.bool x61)] 0 := ⟨_, rfl⟩
          replace h := h w23 hw64
          refine stepD_skpL (L' := []) (w' := w23) rfl rfl rfl ((x_store (v := (Value.bool x61)) rfl rfl rfl SZ_4 (ones (by rfl)) q64).trans (by rw [hw64]; rfl)) (by kernel_rfl) held_nil ?_
          exact wpD_done (by kernel_rfl) ⟨(), ⟨e2, e3, e4, e5, trivial⟩, h⟩
    · replace h := h.2 hc43
      refine wpD_take (v := (Value.pointer (some ((Addr.mk b2 0 none).add 4)))) 3 (fun _ => True) rfl (by kernel_rfl) (by kernel_rfl) (by kernel_rfl) (wantG rfl rfl rfl hc43) rfl rfl trivial (fun w _ => (x_fieldAddr rfl e3 FA_24_4)) ?_
      obtain ⟨x65, q65, h⟩ := h
      refine wpD_take (v := (Value.bool x65)) 4 (fun w => w.cell? ((Addr.mk b2 0 none).add 4) = some (Value.bool x65)) rfl (by kernel_rfl) (by kernel_rfl) (by kernel_rfl) (wantG rfl rfl rfl hc43) rfl rfl q65 (fun w q65 => (x_load1 rfl rfl SH_4 q65)) ?_
      refine wpD_take (v := (Value.bool x65)) 5 (fun _ => True) rfl (by kernel_rfl) (by kernel_rfl) (by kernel_rfl) rfl rfl rfl trivial (fun w _ => (x_pickF (v := (Value.bool x65)) rfl rfl hc43 rfl)) ?_
      refine wpD_take (v := (Value.pointer (some ((Addr.mk b1 0 none).add 6)))) 6 (fun _ => True) rfl (by kernel_rfl) (by kernel_rfl) (by kernel_rfl) rfl rfl rfl trivial (fun w _ => (x_fieldAddr rfl e2 FA_24_6)) ?_
      obtain ⟨x66, q66, h⟩ := h
      refine wpD_take (v := (Value.bool x66)) 7 (fun w => w.cell? ((Addr.mk b1 0 none).add 6) = some (Value.bool x66)) rfl (by kernel_rfl) (by kernel_rfl) (by kernel_rfl) rfl rfl rfl q66 (fun w q66 => (x_load1 rfl rfl SH_4 q66)) ?_
      refine wpD_take (v := (Value.bool x66)) 8 (fun _ => True) rfl (by kernel_rfl) (by kernel_rfl) (by kernel_rfl) rfl rfl rfl trivial (fun w _ => (x_move (v := (Value.bool x66)) rfl rfl)) ?_
      rcases Bool.eq_false_or_eq_true (x66) with hc67 | hc67
      · replace h := h.1 hc67
        refine wpD_pass 9 rfl (by kernel_rfl) (by kernel_rfl) (by kernel_rfl) (wantN rfl rfl rfl hc67) rfl rfl ?_
        refine wpD_pass 10 rfl (by kernel_rfl) (by kernel_rfl) (by kernel_rfl) (wantN rfl rfl rfl hc67) rfl rfl ?_
        refine wpD_take (v := (Value.bool true)) 11 (fun _ => True) rfl (by kernel_rfl) (by kernel_rfl) (by kernel_rfl) rfl rfl rfl trivial (fun w _ => (x_pickT (v := (Value.bool true)) rfl rfl hc67 rfl)) ?_
        refine wpD_take (v := (Value.pointer (some ((Addr.mk b1 0 none).add 7)))) 12 (fun _ => True) rfl (by kernel_rfl) (by kernel_rfl) (by kernel_rfl) rfl rfl rfl trivial (fun w _ => (x_fieldAddr rfl e2 FA_24_7)) ?_
        obtain ⟨x68, q68, h⟩ := h
        refine wpD_take (v := (Value.bool x68)) 13 (fun w => w.cell? ((Addr.mk b1 0 none).add 7) = some (Value.bool x68)) rfl (by kernel_rfl) (by kernel_rfl) (by kernel_rfl) rfl rfl rfl q68 (fun w q68 => (x_load1 rfl rfl SH_4 q68)) ?_
        refine wpD_take (v := (Value.bool x68)) 14 (fun _ => True) rfl (by kernel_rfl) (by kernel_rfl) (by kernel_rfl) rfl rfl rfl trivial (fun w _ => (x_move (v := (Value.bool x68)) rfl rfl)) ?_
        rcases Bool.eq_false_or_eq_true (x68) with hc69 | hc69
        · replace h := h.1 hc69
          refine wpD_pass 15 rfl (by kernel_rfl) (by kernel_rfl) (by kernel_rfl) (wantN rfl rfl rfl hc69) rfl rfl ?_
          refine wpD_pass 16 rfl (by kernel_rfl) (by kernel_rfl) (by kernel_rfl) (wantN rfl rfl rfl hc69) rfl rfl ?_
          refine wpD_take (v := (Value.bool true)) 17 (fun _ => True) rfl (by kernel_rfl) (by kernel_rfl) (by kernel_rfl) rfl rfl rfl trivial (fun w _ => (x_pickT (v := (Value.bool true)) rfl rfl hc69 rfl)) ?_
          refine wpD_take (v := (Value.pointer (some ((Addr.mk b26 0 none).add 4)))) 18 (fun _ => True) rfl (by kernel_rfl) (by kernel_rfl) (by kernel_rfl) rfl rfl rfl trivial (fun w _ => (x_fieldAddr rfl e5 FA_24_4)) ?_
          refine wpD_all (rs := [19]) (by kernel_rfl) (by simp) (allD_cons ?_ allD_nil)
          obtain ⟨q70, h⟩ := h
          obtain ⟨w24, hw70⟩ : ∃ u, u = setAll w11 ((Addr.mk b26 0 none).add 4) [(Value.bool x65)] 0 := ⟨_, rfl⟩
          replace h := h w24 hw70
          obtain ⟨o13, h⟩ := h
          obtain ⟨o7, h⟩ := h
          refine stepD_skpL (L' := [(17, fun _ => True), (16, fun _ => True), (15, fun _ => True), (13, fun w => w.cell? ((Addr.mk b1 0 none).add 7) = some (Value.bool x68)), (12, fun _ => True), (11, fun _ => True), (10, fun _ => True), (9, fun _ => True), (8, fun _ => True), (7, fun w => w.cell? ((Addr.mk b1 0 none).add 6) = some (Value.bool x66)), (6, fun _ => True)]) (w' := w24) rfl rfl rfl ((x_store (v := (Value.bool x65)) rfl rfl rfl SZ_4 (ones (by rfl)) q70).trans (by rw [hw70]; rfl)) (by kernel_rfl) (held_cons trivial (held_cons trivial (held_cons trivial (held_cons o13 (held_cons trivial (held_cons trivial (held_cons trivial (held_cons trivial (held_cons trivial (held_cons o7 (held_cons trivial held_nil))))))))))) ?_
          refine wpD_take (v := (Value.pointer (some ((Addr.mk b26 0 none).add 6)))) 20 (fun _ => True) rfl (by kernel_rfl) (by kernel_rfl) (by kernel_rfl) rfl rfl rfl trivial (fun w _ => (x_fieldAddr rfl e5 FA_24_6)) ?_
          refine wpD_all (rs := [21]) (by kernel_rfl) (by simp) (allD_cons ?_ allD_nil)
          obtain ⟨q71, h⟩ := h
          obtain ⟨w25, hw71⟩ : ∃ u, u = setAll w24 ((Addr.mk b26 0 none).add 6) [(Value.bool true)] 0 := ⟨_, rfl⟩
          replace h := h w25 hw71
          obtain ⟨o13, h⟩ := h
          refine stepD_skpL (L' := [(17, fun _ => True), (16, fun _ => True), (15, fun _ => True), (13, fun w => w.cell? ((Addr.mk b1 0 none).add 7) = some (Value.bool x68)), (12, fun _ => True)]) (w' := w25) rfl rfl rfl ((x_store (v := (Value.bool true)) rfl rfl rfl SZ_4 (ones (by rfl)) q71).trans (by rw [hw71]; rfl)) (by kernel_rfl) (held_cons trivial (held_cons trivial (held_cons trivial (held_cons o13 (held_cons trivial held_nil))))) ?_
          refine wpD_take (v := (Value.pointer (some ((Addr.mk b26 0 none).add 7)))) 22 (fun _ => True) rfl (by kernel_rfl) (by kernel_rfl) (by kernel_rfl) rfl rfl rfl trivial (fun w _ => (x_fieldAddr rfl e5 FA_24_7)) ?_
          refine wpD_all (rs := [23]) (by kernel_rfl) (by simp) (allD_cons ?_ allD_nil)
          obtain ⟨q72, h⟩ := h
          obtain ⟨w26, hw72⟩ : ∃ u, u = setAll w25 ((Addr.mk b26 0 none).add 7) [(Value.bool true)] 0 := ⟨_, rfl⟩
          replace h := h w26 hw72
          refine stepD_skpL (L' := []) (w' := w26) rfl rfl rfl ((x_store (v := (Value.bool true)) rfl rfl rfl SZ_4 (ones (by rfl)) q72).trans (by rw [hw72]; rfl)) (by kernel_rfl) held_nil ?_
          exact wpD_done (by kernel_rfl) ⟨(), ⟨e2, e3, e4, e5, trivial⟩, h⟩
        · replace h := h.2 hc69
          refine wpD_take (v := (Value.pointer (some ((Addr.mk b2 0 none).add 7)))) 15 (fun _ => True) rfl (by kernel_rfl) (by kernel_rfl) (by kernel_rfl) (wantG rfl rfl rfl hc69) rfl rfl trivial (fun w _ => (x_fieldAddr rfl e3 FA_24_7)) ?_
          obtain ⟨x73, q73, h⟩ := h
          refine wpD_take (v := (Value.bool x73)) 16 (fun w => w.cell? ((Addr.mk b2 0 none).add 7) = some (Value.bool x73)) rfl (by kernel_rfl) (by kernel_rfl) (by kernel_rfl) (wantG rfl rfl rfl hc69) rfl rfl q73 (fun w q73 => (x_load1 rfl rfl SH_4 q73)) ?_
          refine wpD_take (v := (Value.bool x73)) 17 (fun _ => True) rfl (by kernel_rfl) (by kernel_rfl) (by kernel_rfl) rfl rfl rfl trivial (fun w _ => (x_pickF (v := (Value.bool x73)) rfl rfl hc69 rfl)) ?_
          refine wpD_take (v := (Value.pointer (some ((Addr.mk b26 0 none).add 4)))) 18 (fun _ => True) rfl (by kernel_rfl) (by kernel_rfl) (by kernel_rfl) rfl rfl rfl trivial (fun w _ => (x_fieldAddr rfl e5 FA_24_4)) ?_
          refine wpD_all (rs := [19]) (by kernel_rfl) (by simp) (allD_cons ?_ allD_nil)
          obtain ⟨q74, h⟩ := h
          obtain ⟨w27, hw74⟩ : ∃ u, u = setAll w11 ((Addr.mk b26 0 none).add 4) [(Value.bool x65)] 0 := ⟨_, rfl⟩
          replace h := h w27 hw74
          obtain ⟨o16, h⟩ := h
          obtain ⟨o13, h⟩ := h
          obtain ⟨o7, h⟩ := h
          refine stepD_skpL (L' := [(17, fun _ => True), (16, fun w => w.cell? ((Addr.mk b2 0 none).add 7) = some (Value.bool x73)), (15, fun _ => True), (13, fun w => w.cell? ((Addr.mk b1 0 none).add 7) = some (Value.bool x68)), (12, fun _ => True), (11, fun _ => True), (10, fun _ => True), (9, fun _ => True), (8, fun _ => True), (7, fun w => w.cell? ((Addr.mk b1 0 none).add 6) = some (Value.bool x66)), (6, fun _ => True)]) (w' := w27) rfl rfl rfl ((x_store (v := (Value.bool x65)) rfl rfl rfl SZ_4 (ones (by rfl)) q74).trans (by rw [hw74]; rfl)) (by kernel_rfl) (held_cons trivial (held_cons o16 (held_cons trivial (held_cons o13 (held_cons trivial (held_cons trivial (held_cons trivial (held_cons trivial (held_cons trivial (held_cons o7 (held_cons trivial held_nil))))))))))) ?_
          refine wpD_take (v := (Value.pointer (some ((Addr.mk b26 0 none).add 6)))) 20 (fun _ => True) rfl (by kernel_rfl) (by kernel_rfl) (by kernel_rfl) rfl rfl rfl trivial (fun w _ => (x_fieldAddr rfl e5 FA_24_6)) ?_
          refine wpD_all (rs := [21]) (by kernel_rfl) (by simp) (allD_cons ?_ allD_nil)
          obtain ⟨q75, h⟩ := h
          obtain ⟨w28, hw75⟩ : ∃ u, u = setAll w27 ((Addr.mk b26 0 none).add 6) [(Value.bool true)] 0 := ⟨_, rfl⟩
          replace h := h w28 hw75
          obtain ⟨o16, h⟩ := h
          obtain ⟨o13, h⟩ := h
          refine stepD_skpL (L' := [(17, fun _ => True), (16, fun w => w.cell? ((Addr.mk b2 0 none).add 7) = some (Value.bool x73)), (15, fun _ => True), (13, fun w => w.cell? ((Addr.mk b1 0 none).add 7) = some (Value.bool x68)), (12, fun _ => True)]) (w' := w28) rfl rfl rfl ((x_store (v := (Value.bool true)) rfl rfl rfl SZ_4 (ones (by rfl)) q75).trans (by rw [hw75]; rfl)) (by kernel_rfl) (held_cons trivial (held_cons o16 (held_cons trivial (held_cons o13 (held_cons trivial held_nil))))) ?_
          refine wpD_take (v := (Value.pointer (some ((Addr.mk b26 0 none).add 7)))) 22 (fun _ => True) rfl (by kernel_rfl) (by kernel_rfl) (by kernel_rfl) rfl rfl rfl trivial (fun w _ => (x_fieldAddr rfl e5 FA_24_7)) ?_
          refine wpD_all (rs := [23]) (by kernel_rfl) (by simp) (allD_cons ?_ allD_nil)
          obtain ⟨q76, h⟩ := h
          obtain ⟨w29, hw76⟩ : ∃ u, u = setAll w28 ((Addr.mk b26 0 none).add 7) [(Value.bool x73)] 0 := ⟨_, rfl⟩
          replace h := h w29 hw76
          refine stepD_skpL (L' := []) (w' := w29) rfl rfl rfl ((x_store (v := (Value.bool x73)) rfl rfl rfl SZ_4 (ones (by rfl)) q76).trans (by rw [hw76]; rfl)) (by kernel_rfl) held_nil ?_
          exact wpD_done (by kernel_rfl) ⟨(), ⟨e2, e3, e4, e5, trivial⟩, h⟩
      · replace h := h.2 hc67
        refine wpD_take (v := (Value.pointer (some ((Addr.mk b2 0 none).add 6)))) 9 (fun _ => True) rfl (by kernel_rfl) (by kernel_rfl) (by kernel_rfl) (wantG rfl rfl rfl hc67) rfl rfl trivial (fun w _ => (x_fieldAddr rfl e3 FA_24_6)) ?_
        obtain ⟨x77, q77, h⟩ := h
        refine wpD_take (v := (Value.bool x77)) 10 (fun w => w.cell? ((Addr.mk b2 0 none).add 6) = some (Value.bool x77)) rfl (by kernel_rfl) (by kernel_rfl) (by kernel_rfl) (wantG rfl rfl rfl hc67) rfl rfl q77 (fun w q77 => (x_load1 rfl rfl SH_4 q77)) ?_
        refine wpD_take (v := (Value.bool x77)) 11 (fun _ => True) rfl (by kernel_rfl) (by kernel_rfl) (by kernel_rfl) rfl rfl rfl trivial (fun w _ => (x_pickF (v := (Value.bool x77)) rfl rfl hc67 rfl)) ?_
        refine wpD_take (v := (Value.pointer (some ((Addr.mk b1 0 none).add 7)))) 12 (fun _ => True) rfl (by kernel_rfl) (by kernel_rfl) (by kernel_rfl) rfl rfl rfl trivial (fun w _ => (x_fieldAddr rfl e2 FA_24_7)) ?_
        obtain ⟨x78, q78, h⟩ := h
        refine wpD_take (v := (Value.bool x78)) 13 (fun w => w.cell? ((Addr.mk b1 0 none).add 7) = some (Value.bool x78)) rfl (by kernel_rfl) (by kernel_rfl) (by kernel_rfl) rfl rfl rfl q78 (fun w q78 => (x_load1 rfl rfl SH_4 q78)) ?_
        refine wpD_take (v := (Value.bool x78)) 14 (fun _ => True) rfl (by kernel_rfl) (by kernel_rfl) (by kernel_rfl) rfl rfl rfl trivial (fun w _ => (x_move (v := (Value.bool x78)) rfl rfl)) ?_
        rcases Bool.eq_false_or_eq_true (x78) with hc79 | hc79
        · replace h := h.1 hc79
          refine wpD_pass 15 rfl (by kernel_rfl) (by kernel_rfl) (by kernel_rfl) (wantN rfl rfl rfl hc79) rfl rfl ?_
          refine wpD_pass 16 rfl (by kernel_rfl) (by kernel_rfl) (by kernel_rfl) (wantN rfl rfl rfl hc79) rfl rfl ?_
          refine wpD_take (v := (Value.bool true)) 17 (fun _ => True) rfl (by kernel_rfl) (by kernel_rfl) (by kernel_rfl) rfl rfl rfl trivial (fun w _ => (x_pickT (v := (Value.bool true)) rfl rfl hc79 rfl)) ?_
          refine wpD_take (v := (Value.pointer (some ((Addr.mk b26 0 none).add 4)))) 18 (fun _ => True) rfl (by kernel_rfl) (by kernel_rfl) (by kernel_rfl) rfl rfl rfl trivial (fun w _ => (x_fieldAddr rfl e5 FA_24_4)) ?_
          refine wpD_all (rs := [19]) (by kernel_rfl) (by simp) (allD_cons ?_ allD_nil)
          obtain ⟨q80, h⟩ := h
          obtain ⟨w30, hw80⟩ : ∃ u, u = setAll w11 ((Addr.mk b26 0 none).add 4) [(Value.bool x65)] 0 := ⟨_, rfl⟩
          replace h := h w30 hw80
          obtain ⟨o13, h⟩ := h
          obtain ⟨o10, h⟩ := h
          obtain ⟨o7, h⟩ := h
          refine stepD_skpL (L' := [(17, fun _ => True), (16, fun _ => True), (15, fun _ => True), (13, fun w => w.cell? ((Addr.mk b1 0 none).add 7) = some (Value.bool x78)), (12, fun _ => True), (11, fun _ => True), (10, fun w => w.cell? ((Addr.mk b2 0 none).add 6) = some (Value.bool x77)), (9, fun _ => True), (8, fun _ => True), (7, fun w => w.cell? ((Addr.mk b1 0 none).add 6) = some (Value.bool x66)), (6, fun _ => True)]) (w' := w30) rfl rfl rfl ((x_store (v := (Value.bool x65)) rfl rfl rfl SZ_4 (ones (by rfl)) q80).trans (by rw [hw80]; rfl)) (by kernel_rfl) (held_cons trivial (held_cons trivial (held_cons trivial (held_cons o13 (held_cons trivial (held_cons trivial (held_cons o10 (held_cons trivial (held_cons trivial (held_cons o7 (held_cons trivial held_nil))))))))))) ?_
          refine wpD_take (v := (Value.pointer (some ((Addr.mk b26 0 none).add 6)))) 20 (fun _ => True) rfl (by kernel_rfl) (by kernel_rfl) (by kernel_rfl) rfl rfl rfl trivial (fun w _ => (x_fieldAddr rfl e5 FA_24_6)) ?_
          refine wpD_all (rs := [21]) (by kernel_rfl) (by simp) (allD_cons ?_ allD_nil)
          obtain ⟨q81, h⟩ := h
          obtain ⟨w31, hw81⟩ : ∃ u, u = setAll w30 ((Addr.mk b26 0 none).add 6) [(Value.bool x77)] 0 := ⟨_, rfl⟩
          replace h := h w31 hw81
          obtain ⟨o13, h⟩ := h
          refine stepD_skpL (L' := [(17, fun _ => True), (16, fun _ => True), (15, fun _ => True), (13, fun w => w.cell? ((Addr.mk b1 0 none).add 7) = some (Value.bool x78)), (12, fun _ => True)]) (w' := w31) rfl rfl rfl ((x_store (v := (Value.bool x77)) rfl rfl rfl SZ_4 (ones (by rfl)) q81).trans (by rw [hw81]; rfl)) (by kernel_rfl) (held_cons trivial (held_cons trivial (held_cons trivial (held_cons o13 (held_cons trivial held_nil))))) ?_
          refine wpD_take (v := (Value.pointer (some ((Addr.mk b26 0 none).add 7)))) 22 (fun _ => True) rfl (by kernel_rfl) (by kernel_rfl) (by kernel_rfl) rfl rfl rfl trivial (fun w _ => (x_fieldAddr rfl e5 FA_24_7)) ?_
          refine wpD_all (rs := [23]) (by kernel_rfl) (by simp) (allD_cons ?_ allD_nil)
          obtain ⟨q82, h⟩ := h
          obtain ⟨w32, hw82⟩ : ∃ u, u = setAll w31 ((Addr.mk b26 0 none).add 7) [(Value.bool true)] 0 := ⟨_, rfl⟩
          replace h := h w32 hw82
          refine stepD_skpL (L' := []) (w' := w32) rfl rfl rfl ((x_store (v := (Value.bool true)) rfl rfl rfl SZ_4 (ones (by rfl)) q82).trans (by rw [hw82]; rfl)) (by kernel_rfl) held_nil ?_
          exact wpD_done (by kernel_rfl) ⟨(), ⟨e2, e3, e4, e5, trivial⟩, h⟩
        · replace h := h.2 hc79
          refine wpD_take (v := (Value.pointer (some ((Addr.mk b2 0 none).add 7)))) 15 (fun _ => True) rfl (by kernel_rfl) (by kernel_rfl) (by kernel_rfl) (wantG rfl rfl rfl hc79) rfl rfl trivial (fun w _ => (x_fieldAddr rfl e3 FA_24_7)) ?_
          obtain ⟨x83, q83, h⟩ := h
          refine wpD_take (v := (Value.bool x83)) 16 (fun w => w.cell? ((Addr.mk b2 0 none).add 7) = some (Value.bool x83)) rfl (by kernel_rfl) (by kernel_rfl) (by kernel_rfl) (wantG rfl rfl rfl hc79) rfl rfl q83 (fun w q83 => (x_load1 rfl rfl SH_4 q83)) ?_
          refine wpD_take (v := (Value.bool x83)) 17 (fun _ => True) rfl (by kernel_rfl) (by kernel_rfl) (by kernel_rfl) rfl rfl rfl trivial (fun w _ => (x_pickF (v := (Value.bool x83)) rfl rfl hc79 rfl)) ?_
          refine wpD_take (v := (Value.pointer (some ((Addr.mk b26 0 none).add 4)))) 18 (fun _ => True) rfl (by kernel_rfl) (by kernel_rfl) (by kernel_rfl) rfl rfl rfl trivial (fun w _ => (x_fieldAddr rfl e5 FA_24_4)) ?_
          refine wpD_all (rs := [19]) (by kernel_rfl) (by simp) (allD_cons ?_ allD_nil)
          obtain ⟨q84, h⟩ := h
          obtain ⟨w33, hw84⟩ : ∃ u, u = setAll w11 ((Addr.mk b26 0 none).add 4) [(Value.bool x65)] 0 := ⟨_, rfl⟩
          replace h := h w33 hw84
          obtain ⟨o16, h⟩ := h
          obtain ⟨o13, h⟩ := h
          obtain ⟨o10, h⟩ := h
          obtain ⟨o7, h⟩ := h
          refine stepD_skpL (L' := [(17, fun _ => True), (16, fun w => w.cell? ((Addr.mk b2 0 none).add 7) = some (Value.bool x83)), (15, fun _ => True), (13, fun w => w.cell? ((Addr.mk b1 0 none).add 7) = some (Value.bool x78)), (12, fun _ => True), (11, fun _ => True), (10, fun w => w.cell? ((Addr.mk b2 0 none).add 6) = some (Value.bool x77)), (9, fun _ => True), (8, fun _ => True), (7, fun w => w.cell? ((Addr.mk b1 0 none).add 6) = some (Value.bool x66)), (6, fun _ => True)]) (w' := w33) rfl rfl rfl ((x_store (v := (Value.bool x65)) rfl rfl rfl SZ_4 (ones (by rfl)) q84).trans (by rw [hw84]; rfl)) (by kernel_rfl) (held_cons trivial (held_cons o16 (held_cons trivial (held_cons o13 (held_cons trivial (held_cons trivial (held_cons o10 (held_cons trivial (held_cons trivial (held_cons o7 (held_cons trivial held_nil))))))))))) ?_
          refine wpD_take (v := (Value.pointer (some ((Addr.mk b26 0 none).add 6)))) 20 (fun _ => True) rfl (by kernel_rfl) (by kernel_rfl) (by kernel_rfl) rfl rfl rfl trivial (fun w _ => (x_fieldAddr rfl e5 FA_24_6)) ?_
          refine wpD_all (rs := [21]) (by kernel_rfl) (by simp) (allD_cons ?_ allD_nil)
          obtain ⟨q85, h⟩ := h
          obtain ⟨w34, hw85⟩ : ∃ u, u = setAll w33 ((Addr.mk b26 0 none).add 6) [(Value.bool x77)] 0 := ⟨_, rfl⟩
          replace h := h w34 hw85
          obtain ⟨o16, h⟩ := h
          obtain ⟨o13, h⟩ := h
          refine stepD_skpL (L' := [(17, fun _ => True), (16, fun w => w.cell? ((Addr.mk b2 0 none).add 7) = some (Value.bool x83)), (15, fun _ => True), (13, fun w => w.cell? ((Addr.mk b1 0 none).add 7) = some (Value.bool x78)), (12, fun _ => True)]) (w' := w34) rfl rfl rfl ((x_store (v := (Value.bool x77)) rfl rfl rfl SZ_4 (ones (by rfl)) q85).trans (by rw [hw85]; rfl)) (by kernel_rfl) (held_cons trivial (held_cons o16 (held_cons trivial (held_cons o13 (held_cons trivial held_nil))))) ?_
          refine wpD_take (v := (Value.pointer (some ((Addr.mk b26 0 none).add 7)))) 22 (fun _ => True) rfl (by kernel_rfl) (by kernel_rfl) (by kernel_rfl) rfl rfl rfl trivial (fun w _ => (x_fieldAddr rfl e5 FA_24_7)) ?_
          refine wpD_all (rs := [23]) (by kernel_rfl) (by simp) (allD_cons ?_ allD_nil)
          obtain ⟨q86, h⟩ := h
          obtain ⟨w35, hw86⟩ : ∃ u, u = setAll w34 ((Addr.mk b26 0 none).add 7) [(Value.bool x83)] 0 := ⟨_, rfl⟩
          replace h := h w35 hw86
          refine stepD_skpL (L' := []) (w' := w35) rfl rfl rfl ((x_store (v := (Value.bool x83)) rfl rfl rfl SZ_4 (ones (by rfl)) q86).trans (by rw [hw86]; rfl)) (by kernel_rfl) held_nil ?_
          exact wpD_done (by kernel_rfl) ⟨(), ⟨e2, e3, e4, e5, trivial⟩, h⟩
  clear h
  rintro l87 ρ w36 ⟨e2, e3, e4, e5, -⟩ h
  replace h := hk l87 w36 h
  clear hk
  refine wpC_seq ?_
  obtain ⟨J89, h, hk⟩ := h
  refine wpC_drawJ (by kernel_rfl) (fun (x : Unit) ρ => ρ 2 = (Value.pointer (some (Addr.mk b1 0 none))) ∧ ρ 3 = (Value.pointer (some (Addr.mk b2 0 none))) ∧ ρ 4 = (Value.pointer (some (Addr.mk b3 0 none))) ∧ ρ 5 = (Value.pointer (some (Addr.mk b26 0 none))) ∧ True) J89 ?_ ?_
  · clear hk
    unfold tk at h
    generalize w36.drew = w37 at h ⊢
    refine wpD_take (v := (Value.pointer (some ((Addr.mk b1 0 none).add 8)))) 0 (fun _ => True) rfl (by kernel_rfl) (by kernel_rfl) (by kernel_rfl) rfl rfl rfl trivial (fun w _ => (x_fieldAddr rfl e2 FA_24_8)) ?_
    obtain ⟨x90, q90, h⟩ := h
    refine wpD_take (v := (Value.int .i64 x90)) 1 (fun w => w.cell? ((Addr.mk b1 0 none).add 8) = some (Value.int .i64 x90)) rfl (by kernel_rfl) (by kernel_rfl) (by kernel_rfl) rfl rfl rfl q90 (fun w q90 => (x_load1 rfl rfl SH_3 q90)) ?_
    refine wpD_take (v := (Value.pointer (some ((Addr.mk b2 0 none).add 8)))) 2 (fun _ => True) rfl (by kernel_rfl) (by kernel_rfl) (by kernel_rfl) rfl rfl rfl trivial (fun w _ => (x_fieldAddr rfl e3 FA_24_8)) ?_
    obtain ⟨x91, q91, h⟩ := h
    refine wpD_take (v := (Value.int .i64 x91)) 3 (fun w => w.cell? ((Addr.mk b2 0 none).add 8) = some (Value.int .i64 x91)) rfl (by kernel_rfl) (by kernel_rfl) (by kernel_rfl) rfl rfl rfl q91 (fun w q91 => (x_load1 rfl rfl SH_3 q91)) ?_
    refine wpD_take (v := (Value.int .i64 (max x90 x91))) 4 (fun _ => True) rfl (by kernel_rfl) (by kernel_rfl) (by kernel_rfl) rfl rfl rfl trivial (fun w _ => (x_max rfl rfl rfl)) ?_
    refine wpD_take (v := (Value.pointer (some ((Addr.mk b1 0 none).add 9)))) 5 (fun _ => True) rfl (by kernel_rfl) (by kernel_rfl) (by kernel_rfl) rfl rfl rfl trivial (fun w _ => (x_fieldAddr rfl e2 FA_24_9)) ?_
    obtain ⟨x92, q92, h⟩ := h
    refine wpD_take (v := (Value.int .i64 x92)) 6 (fun w => w.cell? ((Addr.mk b1 0 none).add 9) = some (Value.int .i64 x92)) rfl (by kernel_rfl) (by kernel_rfl) (by kernel_rfl) rfl rfl rfl q92 (fun w q92 => (x_load1 rfl rfl SH_3 q92)) ?_
    refine wpD_take (v := (Value.pointer (some ((Addr.mk b2 0 none).add 9)))) 7 (fun _ => True) rfl (by kernel_rfl) (by kernel_rfl) (by kernel_rfl) rfl rfl rfl trivial (fun w _ => (x_fieldAddr rfl e3 FA_24_9)) ?_
    obtain ⟨x93, q93, h⟩ := h
    refine wpD_take (v := (Value.int .i64 x93)) 8 (fun w => w.cell? ((Addr.mk b2 0 none).add 9) = some (Value.int .i64 x93)) rfl (by kernel_rfl) (by kernel_rfl) (by kernel_rfl) rfl rfl rfl q93 (fun w q93 => (x_load1 rfl rfl SH_3 q93)) ?_
    refine wpD_take (v := (Value.int .i64 (max x92 x93))) 9 (fun _ => True) rfl (by kernel_rfl) (by kernel_rfl) (by kernel_rfl) rfl rfl rfl trivial (fun w _ => (x_max rfl rfl rfl)) ?_
    refine wpD_take (v := (Value.pointer (some ((Addr.mk b1 0 none).add 16)))) 10 (fun _ => True) rfl (by kernel_rfl) (by kernel_rfl) (by kernel_rfl) rfl rfl rfl trivial (fun w _ => (x_fieldAddr rfl e2 FA_24_16)) ?_
    obtain ⟨x94, q94, h⟩ := h
    refine wpD_take (v := (Value.int .i64 x94)) 11 (fun w => w.cell? ((Addr.mk b1 0 none).add 16) = some (Value.int .i64 x94)) rfl (by kernel_rfl) (by kernel_rfl) (by kernel_rfl) rfl rfl rfl q94 (fun w q94 => (x_load1 rfl rfl SH_3 q94)) ?_
    refine wpD_take (v := (Value.pointer (some ((Addr.mk b2 0 none).add 16)))) 12 (fun _ => True) rfl (by kernel_rfl) (by kernel_rfl) (by kernel_rfl) rfl rfl rfl trivial (fun w _ => (x_fieldAddr rfl e3 FA_24_16)) ?_
    obtain ⟨x95, q95, h⟩ := h
    refine wpD_take (v := (Value.int .i64 x95)) 13 (fun w => w.cell? ((Addr.mk b2 0 none).add 16) = some (Value.int .i64 x95)) rfl (by kernel_rfl) (by kernel_rfl) (by kernel_rfl) rfl rfl rfl q95 (fun w q95 => (x_load1 rfl rfl SH_3 q95)) ?_
    refine wpD_take (v := (Value.int .i64 (max x94 x95))) 14 (fun _ => True) rfl (by kernel_rfl) (by kernel_rfl) (by kernel_rfl) rfl rfl rfl trivial (fun w _ => (x_max rfl rfl rfl)) ?_
    refine wpD_take (v := (Value.pointer (some ((Addr.mk b26 0 none).add 8)))) 15 (fun _ => True) rfl (by kernel_rfl) (by kernel_rfl) (by kernel_rfl) rfl rfl rfl trivial (fun w _ => (x_fieldAddr rfl e5 FA_24_8)) ?_
    refine wpD_all (rs := [16]) (by kernel_rfl) (by simp) (allD_cons ?_ allD_nil)
    obtain ⟨q96, h⟩ := h
    obtain ⟨w38, hw96⟩ : ∃ u, u = setAll w37 ((Addr.mk b26 0 none).add 8) [(Value.int .i64 (max x90 x91))] 0 := ⟨_, rfl⟩
    replace h := h w38 hw96
    obtain ⟨o13, h⟩ := h
    obtain ⟨o11, h⟩ := h
    obtain ⟨o8, h⟩ := h
    obtain ⟨o6, h⟩ := h
    refine stepD_skpL (L' := [(14, fun _ => True), (13, fun w => w.cell? ((Addr.mk b2 0 none).add 16) = some (Value.int .i64 x95)), (12, fun _ => True), (11, fun w => w.cell? ((Addr.mk b1 0 none).add 16) = some (Value.int .i64 x94)), (10, fun _ => True), (9, fun _ => True), (8, fun w => w.cell? ((Addr.mk b2 0 none).add 9) = some (Value.int .i64 x93)), (7, fun _ => True), (6, fun w => w.cell? ((Addr.mk b1 0 none).add 9) = some (Value.int .i64 x92)), (5, fun _ => True)]) (w' := w38) rfl rfl rfl ((x_store (v := (Value.int .i64 (max x90 x91))) rfl rfl rfl SZ_3 (ones (by rfl)) q96).trans (by rw [hw96]; rfl)) (by kernel_rfl) (held_cons trivial (held_cons o13 (held_cons trivial (held_cons o11 (held_cons trivial (held_cons trivial (held_cons o8 (held_cons trivial (held_cons o6 (held_cons trivial held_nil)))))))))) ?_
    refine wpD_take (v := (Value.pointer (some ((Addr.mk b26 0 none).add 9)))) 17 (fun _ => True) rfl (by kernel_rfl) (by kernel_rfl) (by kernel_rfl) rfl rfl rfl trivial (fun w _ => (x_fieldAddr rfl e5 FA_24_9)) ?_
    refine wpD_all (rs := [18]) (by kernel_rfl) (by simp) (allD_cons ?_ allD_nil)
    obtain ⟨q97, h⟩ := h
    obtain ⟨w39, hw97⟩ : ∃ u, u = setAll w38 ((Addr.mk b26 0 none).add 9) [(Value.int .i64 (max x92 x93))] 0 := ⟨_, rfl⟩
    replace h := h w39 hw97
    obtain ⟨o13, h⟩ := h
    obtain ⟨o11, h⟩ := h
    refine stepD_skpL (L' := [(14, fun _ => True), (13, fun w => w.cell? ((Addr.mk b2 0 none).add 16) = some (Value.int .i64 x95)), (12, fun _ => True), (11, fun w => w.cell? ((Addr.mk b1 0 none).add 16) = some (Value.int .i64 x94)), (10, fun _ => True)]) (w' := w39) rfl rfl rfl ((x_store (v := (Value.int .i64 (max x92 x93))) rfl rfl rfl SZ_3 (ones (by rfl)) q97).trans (by rw [hw97]; rfl)) (by kernel_rfl) (held_cons trivial (held_cons o13 (held_cons trivial (held_cons o11 (held_cons trivial held_nil))))) ?_
    refine wpD_take (v := (Value.pointer (some ((Addr.mk b26 0 none).add 16)))) 19 (fun _ => True) rfl (by kernel_rfl) (by kernel_rfl) (by kernel_rfl) rfl rfl rfl trivial (fun w _ => (x_fieldAddr rfl e5 FA_24_16)) ?_
    refine wpD_all (rs := [20]) (by kernel_rfl) (by simp) (allD_cons ?_ allD_nil)
    obtain ⟨q98, h⟩ := h
    obtain ⟨w40, hw98⟩ : ∃ u, u = setAll w39 ((Addr.mk b26 0 none).add 16) [(Value.int .i64 (max x94 x95))] 0 := ⟨_, rfl⟩
    replace h := h w40 hw98
    refine stepD_skpL (L' := []) (w' := w40) rfl rfl rfl ((x_store (v := (Value.int .i64 (max x94 x95))) rfl rfl rfl SZ_3 (ones (by rfl)) q98).trans (by rw [hw98]; rfl)) (by kernel_rfl) held_nil ?_
    exact wpD_done (by kernel_rfl) ⟨(), ⟨e2, e3, e4, e5, trivial⟩, h⟩
  clear h
  rintro l99 ρ w41 ⟨e2, e3, e4, e5, -⟩ h
  replace h := hk l99 w41 h
  clear hk
  refine wpC_seq ?_
  obtain ⟨J101, h, hk⟩ := h
  refine wpC_drawJ (by kernel_rfl) (fun (x : Unit) ρ => ρ 2 = (Value.pointer (some (Addr.mk b1 0 none))) ∧ ρ 3 = (Value.pointer (some (Addr.mk b2 0 none))) ∧ ρ 4 = (Value.pointer (some (Addr.mk b3 0 none))) ∧ ρ 5 = (Value.pointer (some (Addr.mk b26 0 none))) ∧ True) J101 ?_ ?_
  · clear hk
    unfold tk at h
    generalize w41.drew = w42 at h ⊢
    refine wpD_take (v := (Value.pointer (some ((Addr.mk b1 0 none).add 10)))) 0 (fun _ => True) rfl (by kernel_rfl) (by kernel_rfl) (by kernel_rfl) rfl rfl rfl trivial (fun w _ => (x_fieldAddr rfl e2 FA_24_10)) ?_
    obtain ⟨x102, q102, h⟩ := h
    refine wpD_take (v := (Value.int .i64 x102)) 1 (fun w => w.cell? ((Addr.mk b1 0 none).add 10) = some (Value.int .i64 x102)) rfl (by kernel_rfl) (by kernel_rfl) (by kernel_rfl) rfl rfl rfl q102 (fun w q102 => (x_load1 rfl rfl SH_3 q102)) ?_
    refine wpD_take (v := (Value.pointer (some ((Addr.mk b2 0 none).add 10)))) 2 (fun _ => True) rfl (by kernel_rfl) (by kernel_rfl) (by kernel_rfl) rfl rfl rfl trivial (fun w _ => (x_fieldAddr rfl e3 FA_24_10)) ?_
    obtain ⟨x103, q103, h⟩ := h
    refine wpD_take (v := (Value.int .i64 x103)) 3 (fun w => w.cell? ((Addr.mk b2 0 none).add 10) = some (Value.int .i64 x103)) rfl (by kernel_rfl) (by kernel_rfl) (by kernel_rfl) rfl rfl rfl q103 (fun w q103 => (x_load1 rfl rfl SH_3 q103)) ?_
    refine wpD_take (v := (Value.int .i64 (max x102 x103))) 4 (fun _ => True) rfl (by kernel_rfl) (by kernel_rfl) (by kernel_rfl) rfl rfl rfl trivial (fun w _ => (x_max rfl rfl rfl)) ?_
    refine wpD_take (v := (Value.pointer (some ((Addr.mk b1 0 none).add 11)))) 5 (fun _ => True) rfl (by kernel_rfl) (by kernel_rfl) (by kernel_rfl) rfl rfl rfl trivial (fun w _ => (x_fieldAddr rfl e2 FA_24_11)) ?_
    obtain ⟨x104, q104, h⟩ := h
    refine wpD_take (v := (Value.int .i64 x104)) 6 (fun w => w.cell? ((Addr.mk b1 0 none).add 11) = some (Value.int .i64 x104)) rfl (by kernel_rfl) (by kernel_rfl) (by kernel_rfl) rfl rfl rfl q104 (fun w q104 => (x_load1 rfl rfl SH_3 q104)) ?_
    refine wpD_take (v := (Value.pointer (some ((Addr.mk b2 0 none).add 11)))) 7 (fun _ => True) rfl (by kernel_rfl) (by kernel_rfl) (by kernel_rfl) rfl rfl rfl trivial (fun w _ => (x_fieldAddr rfl e3 FA_24_11)) ?_
    obtain ⟨x105, q105, h⟩ := h
    refine wpD_take (v := (Value.int .i64 x105)) 8 (fun w => w.cell? ((Addr.mk b2 0 none).add 11) = some (Value.int .i64 x105)) rfl (by kernel_rfl) (by kernel_rfl) (by kernel_rfl) rfl rfl rfl q105 (fun w q105 => (x_load1 rfl rfl SH_3 q105)) ?_
    refine wpD_take (v := (Value.int .i64 (max x104 x105))) 9 (fun _ => True) rfl (by kernel_rfl) (by kernel_rfl) (by kernel_rfl) rfl rfl rfl trivial (fun w _ => (x_max rfl rfl rfl)) ?_
    refine wpD_take (v := (Value.pointer (some ((Addr.mk b26 0 none).add 10)))) 10 (fun _ => True) rfl (by kernel_rfl) (by kernel_rfl) (by kernel_rfl) rfl rfl rfl trivial (fun w _ => (x_fieldAddr rfl e5 FA_24_10)) ?_
    refine wpD_all (rs := [11]) (by kernel_rfl) (by simp) (allD_cons ?_ allD_nil)
    obtain ⟨q106, h⟩ := h
    obtain ⟨w43, hw106⟩ : ∃ u, u = setAll w42 ((Addr.mk b26 0 none).add 10) [(Value.int .i64 (max x102 x103))] 0 := ⟨_, rfl⟩
    replace h := h w43 hw106
    obtain ⟨o8, h⟩ := h
    obtain ⟨o6, h⟩ := h
    refine stepD_skpL (L' := [(9, fun _ => True), (8, fun w => w.cell? ((Addr.mk b2 0 none).add 11) = some (Value.int .i64 x105)), (7, fun _ => True), (6, fun w => w.cell? ((Addr.mk b1 0 none).add 11) = some (Value.int .i64 x104)), (5, fun _ => True)]) (w' := w43) rfl rfl rfl ((x_store (v := (Value.int .i64 (max x102 x103))) rfl rfl rfl SZ_3 (ones (by rfl)) q106).trans (by rw [hw106]; rfl)) (by kernel_rfl) (held_cons trivial (held_cons o8 (held_cons trivial (held_cons o6 (held_cons trivial held_nil))))) ?_
    refine wpD_take (v := (Value.pointer (some ((Addr.mk b26 0 none).add 11)))) 12 (fun _ => True) rfl (by kernel_rfl) (by kernel_rfl) (by kernel_rfl) rfl rfl rfl trivial (fun w _ => (x_fieldAddr rfl e5 FA_24_11)) ?_
    refine wpD_all (rs := [13]) (by kernel_rfl) (by simp) (allD_cons ?_ allD_nil)
    obtain ⟨q107, h⟩ := h
    obtain ⟨w44, hw107⟩ : ∃ u, u = setAll w43 ((Addr.mk b26 0 none).add 11) [(Value.int .i64 (max x104 x105))] 0 := ⟨_, rfl⟩
    replace h := h w44 hw107
    refine stepD_skpL (L' := []) (w' := w44) rfl rfl rfl ((x_store (v := (Value.int .i64 (max x104 x105))) rfl rfl rfl SZ_3 (ones (by rfl)) q107).trans (by rw [hw107]; rfl)) (by kernel_rfl) held_nil ?_
    exact wpD_done (by kernel_rfl) ⟨(), ⟨e2, e3, e4, e5, trivial⟩, h⟩
  clear h
  rintro l108 ρ w45 ⟨e2, e3, e4, e5, -⟩ h
  replace h := hk l108 w45 h
  clear hk
  refine wpC_seq ?_
  refine wpC_region ?_
  obtain ⟨x109, q109, x110, q110, x111, q111, x112, q112, x113, q113, x114, q114, x115, q115, x116, q116, x117, q117, x118, q118, x119, q119, x120, q120, x121, q121, x122, q122, x123, q123, x124, q124, x125, q125, x126, q126, x127, q127, x128, q128, x129, q129, x130, q130, h⟩ := h
  refine wpR_val (v := (V23 x109 x110 x111 x112 x113 x114 x115 x116 x117 x118 x119 x120 x121 x122 x123 x124 x125 x126 x127 x128 x129 x130)) (w' := w45) rfl rfl rfl (x_loadN (S23 x109 x110 x111 x112 x113 x114 x115 x116 x117 x118 x119 x120 x121 x122 x123 x124 x125 x126 x127 x128 x129 x130) rfl e2 SH_24 (K23 ⟨q109, q110, q111, q112, q113, q114, q115, q116, q117, q118, q119, q120, q121, q122, q123, q124, q125, q126, q127, q128, q129, q130⟩)) ?_
  obtain ⟨x131, q131, x132, q132, x133, q133, x134, q134, x135, q135, x136, q136, x137, q137, x138, q138, x139, q139, x140, q140, x141, q141, x142, q142, x143, q143, x144, q144, x145, q145, x146, q146, x147, q147, x148, q148, x149, q149, x150, q150, x151, q151, x152, q152, h⟩ := h
  refine wpR_val (v := (V23 x131 x132 x133 x134 x135 x136 x137 x138 x139 x140 x141 x142 x143 x144 x145 x146 x147 x148 x149 x150 x151 x152)) (w' := w45) rfl rfl rfl (x_loadN (S23 x131 x132 x133 x134 x135 x136 x137 x138 x139 x140 x141 x142 x143 x144 x145 x146 x147 x148 x149 x150 x151 x152) rfl e3 SH_24 (K23 ⟨q131, q132, q133, q134, q135, q136, q137, q138, q139, q140, q141, q142, q143, q144, q145, q146, q147, q148, q149, q150, q151, q152⟩)) ?_
  refine wpR_enter rfl rfl rfl (x_call (vs := [(V23 x109 x110 x111 x112 x113 x114 x115 x116 x117 x118 x119 x120 x121 x122 x123 x124 x125 x126 x127 x128 x129 x130), (V23 x131 x132 x133 x134 x135 x136 x137 x138 x139 x140 x141 x142 x143 x144 x145 x146 x147 x148 x149 x150 x151 x152)]) rfl rfl (mapl_cons rfl (mapl_cons rfl mapl_nil)) Try.func34 NN_34 NB_34) (Calls.mono h ?_)
  rintro _ w46 ⟨r153, rfl, h⟩
  refine ⟨_, rfl, ?_⟩
  refine wpR_val (v := (Value.pointer (some ((Addr.mk b26 0 none).add 2)))) (w' := w46) rfl rfl rfl (x_fieldAddr rfl e5 FA_24_2) ?_
  obtain ⟨q154, h⟩ := h
  obtain ⟨w47, hw154⟩ : ∃ u, u = setAll w46 ((Addr.mk b26 0 none).add 2) [(Value.int .i64 r153)] 0 := ⟨_, rfl⟩
  replace h := h w47 hw154
  refine wpR_skp (w' := w47) rfl rfl ((x_store (v := (Value.int .i64 r153)) rfl rfl rfl SZ_3 (ones (by rfl)) q154).trans (by rw [hw154]; rfl)) ?_
  refine wpR_nil ?_
  refine wpC_seq ?_
  refine wpC_cut (fun ρ => ρ 2 = (Value.pointer (some (Addr.mk b1 0 none))) ∧ ρ 3 = (Value.pointer (some (Addr.mk b2 0 none))) ∧ ρ 4 = (Value.pointer (some (Addr.mk b3 0 none))) ∧ ρ 5 = (Value.pointer (some (Addr.mk b26 0 none))) ∧ True) ⟨e2, e3, e4, e5, trivial⟩ ?_
  rintro ρ ⟨e2, e3, e4, e5, -⟩
  refine wpC_region ?_
  refine wpR_val (v := (Value.pointer (some ((Addr.mk b1 0 none).add 12)))) (w' := w47) rfl rfl rfl (x_fieldAddr rfl e2 FA_24_12) ?_
  obtain ⟨x155, q155, h⟩ := h
  refine wpR_val (v := (Sl.v x155)) (w' := w47) rfl rfl rfl (x_load1 rfl rfl SH_22 q155) ?_
  refine wpR_enter rfl rfl rfl (x_call (vs := [(Sl.v x155)]) rfl rfl (mapl_cons rfl mapl_nil) Try.func35 NN_35 NB_35) (Calls.mono h ?_)
  rintro _ w48 ⟨r156, rfl, h⟩
  refine ⟨_, rfl, ?_⟩
  refine wpR_val (v := (Value.pointer (some ((Addr.mk b26 0 none).add 12)))) (w' := w48) rfl rfl rfl (x_fieldAddr rfl e5 FA_24_12) ?_
  obtain ⟨q157, h⟩ := h
  obtain ⟨w49, hw157⟩ : ∃ u, u = setAll w48 ((Addr.mk b26 0 none).add 12) [(Sl.v r156)] 0 := ⟨_, rfl⟩
  replace h := h w49 hw157
  refine wpR_skp (w' := w49) rfl rfl ((x_store (v := (Sl.v r156)) rfl rfl rfl SZ_22 (ones (by rfl)) q157).trans (by rw [hw157]; rfl)) ?_
  refine wpR_nil ?_
  refine wpC_seq ?_
  refine wpC_seq ?_
  refine wpC_cut (fun ρ => ρ 2 = (Value.pointer (some (Addr.mk b1 0 none))) ∧ ρ 3 = (Value.pointer (some (Addr.mk b2 0 none))) ∧ ρ 4 = (Value.pointer (some (Addr.mk b3 0 none))) ∧ ρ 5 = (Value.pointer (some (Addr.mk b26 0 none))) ∧ True) ⟨e2, e3, e4, e5, trivial⟩ ?_
  rintro ρ ⟨e2, e3, e4, e5, -⟩
  refine wpC_region ?_
  refine wpR_val (v := (Value.pointer (some ((Addr.mk b2 0 none).add 12)))) (w' := w49) rfl rfl rfl (x_fieldAddr rfl e3 FA_24_12) ?_
  obtain ⟨x158, q158, h⟩ := h
  refine wpR_val (v := (Sl.v x158)) (w' := w49) rfl rfl rfl (x_load1 rfl rfl SH_22 q158) ?_
  refine wpR_val (v := (Value.int .i64 (x158.len : Int))) (w' := w49) rfl rfl rfl (x_lenS (s := x158) rfl rfl isSliceT_22) ?_
  refine wpR_val (v := (Value.int .i64 0)) (w' := w49) rfl rfl rfl (x_move (v := (Value.int .i64 0)) rfl rfl) ?_
  refine wpR_nil ?_
  refine wpC_block ?_
  obtain ⟨I159, μ159, hI159, hr159⟩ := h
  refine wpC_loop (fun (x : Int) ρ => ρ 89 = (Value.int .i64 x) ∧ ρ 2 = (Value.pointer (some (Addr.mk b1 0 none))) ∧ ρ 4 = (Value.pointer (some (Addr.mk b3 0 none))) ∧ ρ 5 = (Value.pointer (some (Addr.mk b26 0 none))) ∧ ρ 87 = (Sl.v x158) ∧ ρ 88 = (Value.int .i64 (x158.len : Int)) ∧ True) I159 μ159 0 ⟨rfl, e2, e4, e5, rfl, rfl, trivial⟩ hI159 ?_
  rintro l159 ρ w50 ⟨e89, e2, e4, e5, e87, e88, -⟩ h
  replace h := hr159 l159 w50 h
  clear hr159 hI159
  refine wpC_seq ?_
  refine wpC_region ?_
  refine wpR_val (v := (Value.bool (decide (l159 < (x158.len : Int))))) (w' := w50) rfl rfl rfl (x_lss rfl e89 e88) ?_
  refine wpR_nil ?_
  refine wpC_seq ?_
  refine wpC_cond (b := decide (l159 < (x158.len : Int))) rfl (fun hc160 => ?_) (fun hc160 => ?_)
  · replace h := h.1 hc160
    refine wpC_skip ?_
    obtain ⟨J161, h, hk⟩ := h
    refine wpC_seqJ (fun (x : Unit) ρ => ρ 2 = (Value.pointer (some (Addr.mk b1 0 none))) ∧ ρ 4 = (Value.pointer (some (Addr.mk b3 0 none))) ∧ ρ 5 = (Value.pointer (some (Addr.mk b26 0 none))) ∧ ρ 87 = (Sl.v x158) ∧ ρ 88 = (Value.int .i64 (x158.len : Int)) ∧ ρ 89 = (Value.int .i64 l159) ∧ True) J161 ?_ ?_
    · clear hk
      refine wpC_block ?_
      refine wpC_seq ?_
      refine wpC_cut (fun ρ => ρ 2 = (Value.pointer (some (Addr.mk b1 0 none))) ∧ ρ 4 = (Value.pointer (some (Addr.mk b3 0 none))) ∧ ρ 5 = (Value.pointer (some (Addr.mk b26 0 none))) ∧ ρ 87 = (Sl.v x158) ∧ ρ 88 = (Value.int .i64 (x158.len : Int)) ∧ ρ 89 = (Value.int .i64 l159) ∧ True) ⟨e2, e4, e5, e87, e88, e89, trivial⟩ ?_
      rintro ρ ⟨e2, e4, e5, e87, e88, e89, -⟩
      refine wpC_region ?_
      obtain ⟨q163, z163, r163, h⟩ := h
      generalize hp163 : z163.add ((l159 : Int).toNat * 1) = p163 at h
      refine wpR_val (v := (Value.pointer (some p163))) (w' := w50) rfl rfl rfl ((x_indexAddr (s := x158) rfl e87 e89 ES_22 q163 r163).trans (by rw [hp163])) ?_
      obtain ⟨x164, q164, h⟩ := h
      refine wpR_val (v := (Value.string x164)) (w' := w50) rfl rfl rfl (x_load1 rfl rfl SH_9 q164) ?_
      refine wpR_val (v := (Value.string x164)) (w' := w50) rfl rfl rfl (x_assign (v := (Value.string x164)) rfl rfl) ?_
      refine wpR_nil ?_
      refine wpC_seq ?_
      refine wpC_cut (fun ρ => ρ 2 = (Value.pointer (some (Addr.mk b1 0 none))) ∧ ρ 4 = (Value.pointer (some (Addr.mk b3 0 none))) ∧ ρ 5 = (Value.pointer (some (Addr.mk b26 0 none))) ∧ ρ 7 = (Value.string x164) ∧ ρ 87 = (Sl.v x158) ∧ ρ 88 = (Value.int .i64 (x158.len : Int)) ∧ ρ 89 = (Value.int .i64 l159) ∧ True) ⟨e2, e4, e5, rfl, e87, e88, e89, trivial⟩ ?_
      rintro ρ ⟨e2, e4, e5, e7, e87, e88, e89, -⟩
      refine wpC_region ?_
      refine wpR_val (v := (Value.pointer (some ((Addr.mk b1 0 none).add 12)))) (w' := w50) rfl rfl rfl (x_fieldAddr rfl e2 FA_24_12) ?_
      obtain ⟨x165, q165, h⟩ := h
      refine wpR_val (v := (Sl.v x165)) (w' := w50) rfl rfl rfl (x_load1 rfl rfl SH_22 q165) ?_
      refine wpR_val (v := (Value.string x164)) (w' := w50) rfl rfl rfl (x_move (v := (Value.string x164)) rfl e7) ?_
      refine wpR_enter rfl rfl rfl (x_call (vs := [(Sl.v x165), (Value.string x164)]) rfl rfl (mapl_cons rfl (mapl_cons rfl mapl_nil)) Try.func27 NN_27 NB_27) (Calls.mono h ?_)
      rintro _ w52 ⟨r166, rfl, h⟩
      refine ⟨_, rfl, ?_⟩
      refine wpR_val (v := (Value.bool (!r166))) (w' := w52) rfl rfl rfl (x_not rfl rfl) ?_
      refine wpR_nil ?_
      refine wpC_cond (b := !r166) rfl (fun hc167 => ?_) (fun hc167 => ?_)
      · replace h := h.1 hc167
        refine wpC_cut (fun ρ => ρ 2 = (Value.pointer (some (Addr.mk b1 0 none))) ∧ ρ 4 = (Value.pointer (some (Addr.mk b3 0 none))) ∧ ρ 5 = (Value.pointer (some (Addr.mk b26 0 none))) ∧ ρ 7 = (Value.string x164) ∧ ρ 87 = (Sl.v x158) ∧ ρ 88 = (Value.int .i64 (x158.len : Int)) ∧ ρ 89 = (Value.int .i64 l159) ∧ True) ⟨e2, e4, e5, e7, e87, e88, e89, trivial⟩ ?_
        rintro ρ ⟨e2, e4, e5, e7, e87, e88, e89, -⟩
        refine wpC_region ?_
        refine wpR_val (v := (Value.pointer (some ((Addr.mk b26 0 none).add 12)))) (w' := w52) rfl rfl rfl (x_fieldAddr rfl e5 FA_24_12) ?_
        obtain ⟨x168, q168, h⟩ := h
        refine wpR_val (v := (Sl.v x168)) (w' := w52) rfl rfl rfl (x_load1 rfl rfl SH_22 q168) ?_
        refine wpR_val (v := (Value.string x164)) (w' := w52) rfl rfl rfl (x_move (v := (Value.string x164)) rfl e7) ?_
        obtain ⟨b169, hb169⟩ : ∃ u, u = w52.heap.size := ⟨_, rfl⟩
        obtain ⟨w53, hw169⟩ : ∃ u, u = w52.alloc (.cells #[(Value.string x164)] 9) := ⟨_, rfl⟩
        replace h := h b169 w53 hb169 hw169
        refine wpR_val (v := (Sl.v (⟨some ⟨b169, 0, none⟩, 1, 1⟩ : Sl))) (w' := w53) rfl rfl rfl ((x_buildSlice (qs := [(0, (Value.string x164))]) rfl (by rfl) (BS_22_1_0 x164)).trans (by rw [← hb169, ← hw169])) ?_
        obtain ⟨r170, w54, q170, h⟩ := h
        refine wpR_val (v := (Sl.v r170)) (w' := w54) rfl rfl rfl (x_append (s := x168) (u := (⟨some ⟨b169, 0, none⟩, 1, 1⟩ : Sl)) rfl rfl rfl rfl q170) ?_
        refine wpR_val (v := (Value.pointer (some ((Addr.mk b26 0 none).add 12)))) (w' := w54) rfl rfl rfl (x_fieldAddr rfl e5 FA_24_12) ?_
        obtain ⟨q171, h⟩ := h
        obtain ⟨w55, hw171⟩ : ∃ u, u = setAll w54 ((Addr.mk b26 0 none).add 12) [(Sl.v r170)] 0 := ⟨_, rfl⟩
        replace h := h w55 hw171
        refine wpR_skp (w' := w55) rfl rfl ((x_store (v := (Sl.v r170)) rfl rfl rfl SZ_22 (ones (by rfl)) q171).trans (by rw [hw171]; rfl)) ?_
        refine wpR_nil ?_
        exact ⟨(), ⟨e2, e4, e5, e87, e88, e89, trivial⟩, h⟩
      · replace h := h.2 hc167
        refine wpC_skip ?_
        exact ⟨(), ⟨e2, e4, e5, e87, e88, e89, trivial⟩, h⟩
    clear h
    rintro l162 ρ w51 ⟨e2, e4, e5, e87, e88, e89, -⟩ h
    replace h := hk l162 w51 h
    clear hk
    refine wpC_region ?_
    refine wpR_val (v := (Value.int .i64 (IntKind.i64.wrap (l159 + 1)))) (w' := w51) rfl rfl rfl (x_add rfl e89 rfl) ?_
    refine wpR_val (v := (Value.int .i64 (IntKind.i64.wrap (l159 + 1)))) (w' := w51) rfl rfl rfl (x_move (v := (Value.int .i64 (IntKind.i64.wrap (l159 + 1)))) rfl rfl) ?_
    refine wpR_nil ?_
    exact ⟨IntKind.i64.wrap (l159 + 1), ⟨rfl, e2, e4, e5, e87, e88, trivial⟩, h⟩
  · replace h := h.2 hc160
    refine wpC_exit ?_
    refine wpC_seq ?_
    refine wpC_cut (fun ρ => ρ 4 = (Value.pointer (some (Addr.mk b3 0 none))) ∧ ρ 5 = (Value.pointer (some (Addr.mk b26 0 none))) ∧ True) ⟨e4, e5, trivial⟩ ?_
    rintro ρ ⟨e4, e5, -⟩
    refine wpC_region ?_
    obtain ⟨x172, q172, x173, q173, x174, q174, x175, q175, x176, q176, x177, q177, x178, q178, x179, q179, x180, q180, x181, q181, x182, q182, x183, q183, x184, q184, x185, q185, x186, q186, x187, q187, x188, q188, x189, q189, x190, q190, x191, q191, x192, q192, x193, q193, h⟩ := h
    refine wpR_val (v := (V23 x172 x173 x174 x175 x176 x177 x178 x179 x180 x181 x182 x183 x184 x185 x186 x187 x188 x189 x190 x191 x192 x193)) (w' := w50) rfl rfl rfl (x_loadN (S23 x172 x173 x174 x175 x176 x177 x178 x179 x180 x181 x182 x183 x184 x185 x186 x187 x188 x189 x190 x191 x192 x193) rfl e5 SH_24 (K23 ⟨q172, q173, q174, q175, q176, q177, q178, q179, q180, q181, q182, q183, q184, q185, q186, q187, q188, q189, q190, q191, q192, q193⟩)) ?_
    obtain ⟨q194, h⟩ := h
    obtain ⟨w56, hw194⟩ : ∃ u, u = setAll w50 (Addr.mk b3 0 none) (S23 x172 x173 x174 x175 x176 x177 x178 x179 x180 x181 x182 x183 x184 x185 x186 x187 x188 x189 x190 x191 x192 x193) 0 := ⟨_, rfl⟩
    replace h := h w56 hw194
    refine wpR_skp (w' := w56) rfl rfl ((x_store (v := (V23 x172 x173 x174 x175 x176 x177 x178 x179 x180 x181 x182 x183 x184 x185 x186 x187 x188 x189 x190 x191 x192 x193)) rfl e4 rfl SZ_24 (ones (by rfl)) q194).trans (by rw [hw194]; rfl)) ?_
    refine wpR_nil ?_
    refine wpC_ret ?_
    obtain ⟨x195, q195, x196, q196, x197, q197, x198, q198, x199, q199, x200, q200, x201, q201, x202, q202, x203, q203, x204, q204, x205, q205, x206, q206, x207, q207, x208, q208, x209, q209, x210, q210, x211, q211, x212, q212, x213, q213, x214, q214, x215, q215, x216, q216, h⟩ := h
    exact ⟨.inl rfl, fun a ha => ⟨_, results_repC (S23 x195 x196 x197 x198 x199 x200 x201 x202 x203 x204 x205 x206 x207 x208 x209 x210 x211 x212 x213 x214 x215 x216) rfl ha e4 SH_24 (K23 ⟨q195, q196, q197, q198, q199, q200, q201, q202, q203, q204, q205, q206, q207, q208, q209, q210, q211, q212, q213, q214, q215, q216⟩), (x195, x196, x197, x198, x199, x200, x201, x202, x203, x204, x205, x206, x207, x208, x209, x210, x211, x212, x213, x214, x215, x216), rfl, h⟩⟩

/-- linguaref13.Join -/
def F18 (p0_0 : ByteArray) (p0_1 : Int) (p0_2 : Int) (p0_3 : Int) (p0_4 : Bool) (p0_5 : Int) (p0_6 : Bool) (p0_7 : Bool) (p0_8 : Int) (p0_9 : Int) (p0_10 : Int) (p0_11 : Int) (p0_12 : Sl) (p0_13 : Int) (p0_14 : Int) (p0_15 : Int) (p0_16 : Int) (p0_17 : Bool) (p0_18 : Int) (p0_19 : Int) (p0_20 : Int) (p0_21 : Int) (p1_0 : ByteArray) (p1_1 : Int) (p1_2 : Int) (p1_3 : Int) (p1_4 : Bool) (p1_5 : Int) (p1_6 : Bool) (p1_7 : Bool) (p1_8 : Int) (p1_9 : Int) (p1_10 : Int) (p1_11 : Int) (p1_12 : Sl) (p1_13 : Int) (p1_14 : Int) (p1_15 : Int) (p1_16 : Int) (p1_17 : Bool) (p1_18 : Int) (p1_19 : Int) (p1_20 : Int) (p1_21 : Int) (w0 : World) (K : T23 → World → Prop) : Prop :=
  nw 24 (A23 p0_0 p0_1 p0_2 p0_3 p0_4 p0_5 p0_6 p0_7 p0_8 p0_9 p0_10 p0_11 p0_12 p0_13 p0_14 p0_15 p0_16 p0_17 p0_18 p0_19 p0_20 p0_21) w0 fun b1 w1 =>
  nw 24 (A23 p1_0 p1_1 p1_2 p1_3 p1_4 p1_5 p1_6 p1_7 p1_8 p1_9 p1_10 p1_11 p1_12 p1_13 p1_14 p1_15 p1_16 p1_17 p1_18 p1_19 p1_20 p1_21) w1 fun b2 w2 =>
  nw 24 (A23 (ByteArray.mk #[]) 0 0 0 false 0 false false 0 0 0 0 Sl.nil 0 0 0 0 false 0 0 0 0) w2 fun b3 w3 =>
  L23 (Addr.mk b1 0 none) w3 fun x4 x5 x6 x7 x8 x9 x10 x11 x12 x13 x14 x15 x16 x17 x18 x19 x20 x21 x22 x23 x24 x25 =>
  callC Try.prog 31 #[(V23 x4 x5 x6 x7 x8 x9 x10 x11 x12 x13 x14 x15 x16 x17 x18 x19 x20 x21 x22 x23 x24 x25)] (fun (r : Sl) => (Sl.v r)) w3 fun r26 w4 =>
  L23 (Addr.mk b2 0 none) w4 fun x27 x28 x29 x30 x31 x32 x33 x34 x35 x36 x37 x38 x39 x40 x41 x42 x43 x44 x45 x46 x47 x48 =>
  callC Try.prog 31 #[(V23 x27 x28 x29 x30 x31 x32 x33 x34 x35 x36 x37 x38 x39 x40 x41 x42 x43 x44 x45 x46 x47 x48)] (fun (r : Sl) => (Sl.v r)) w4 fun r49 w5 =>
  lp (fun (next50 : Int → World → Prop) l50 w6 =>
    cnd (decide (l50 < (r26.len : Int)))
      (
      jn (fun (J53 : Unit → World → Prop) => tk w6 fun w7 =>
        ix r26 l50 1 fun p54 =>
        ld (Value.int .i64) p54 w7 fun x55 =>
        ix r49 l50 1 fun p56 =>
        ld (Value.int .i64) p56 w7 fun x57 =>
        ix r26 l50 1 fun p58 =>
        st p58 [(Value.int .i64 (max x55 x57))] w7 fun w8 =>
        J53 () w8
      )
      fun _l60 w9 =>
      next50 (IntKind.i64.wrap (l50 + 1)) w9
      )
      (
      L23 (Addr.mk b1 0 none) w6 fun x61 x62 x63 x64 x65 x66 x67 x68 x69 x70 x71 x72 x73 x74 x75 x76 x77 x78 x79 x80 x81 x82 =>
      callC Try.prog 33 #[(V23 x61 x62 x63 x64 x65 x66 x67 x68 x69 x70 x71 x72 x73 x74 x75 x76 x77 x78 x79 x80 x81 x82), (Sl.v r26)] E23 w6 fun r83 w10 =>
      nw 24 (A23 (ByteArray.mk #[]) 0 0 0 false 0 false false 0 0 0 0 Sl.nil 0 0 0 0 false 0 0 0 0) w10 fun b84 w11 =>
      st (Addr.mk b84 0 none) (S23 r83.1 r83.2.1 r83.2.2.1 r83.2.2.2.1 r83.2.2.2.2.1 r83.2.2.2.2.2.1 r83.2.2.2.2.2.2.1 r83.2.2.2.2.2.2.2.1 r83.2.2.2.2.2.2.2.2.1 r83.2.2.2.2.2.2.2.2.2.1 r83.2.2.2.2.2.2.2.2.2.2.1 r83.2.2.2.2.2.2.2.2.2.2.2.1 r83.2.2.2.2.2.2.2.2.2.2.2.2.1 r83.2.2.2.2.2.2.2.2.2.2.2.2.2.1 r83.2.2.2.2.2.2.2.2.2.2.2.2.2.2.1 r83.2.2.2.2.2.2.2.2.2.2.2.2.2.2.2.1 r83.2.2.2.2.2.2.2.2.2.2.2.2.2.2.2.2.1 r83.2.2.2.2.2.2.2.2.2.2.2.2.2.2.2.2.2.1 r83.2.2.2.2.2.2.2.2.2.2.2.2.2.2.2.2.2.2.1 r83.2.2.2.2.2.2.2.2.2.2.2.2.2.2.2.2.2.2.2.1 r83.2.2.2.2.2.2.2.2.2.2.2.2.2.2.2.2.2.2.2.2.1 r83.2.2.2.2.2.2.2.2.2.2.2.2.2.2.2.2.2.2.2.2.2) w11 fun w12 =>
      nw 9 #[] w12 fun b86 w13 =>
      ld Sl.v ((Addr.mk b1 0 none).add 12) w13 fun x87 =>
      rn Try.prog (Builtin.append_ #[22, 22] 22 #[Sl.v (⟨some ⟨b86, 0, none⟩, 0, 0⟩ : Sl), Sl.v x87]) Sl.v w13 fun r88 w14 =>
      st ((Addr.mk b84 0 none).add 12) [(Sl.v r88)] w14 fun w15 =>
      lp (fun (next90 : Int → World → Prop) l90 w16 =>
        ld Sl.v ((Addr.mk b2 0 none).add 12) w16 fun x91 =>
        cnd (decide (l90 < (x91.len : Int)))
          (
          jn (fun (J93 : Unit → World → Prop) =>
            jn (fun (J96 : Bool → World → Prop) => tk w16 fun w18 =>
              ld Sl.v ((Addr.mk b1 0 none).add 12) w18 fun x97 =>
              ld Sl.v ((Addr.mk b2 0 none).add 12) w18 fun x98 =>
              ix x98 l90 1 fun p99 =>
              ld Value.string p99 w18 fun x100 =>
              callC Try.prog 32 #[(Sl.v x97), (Value.string x100)] (fun (r : Bool) => (Value.bool r)) w18 fun r101 w19 =>
              (w19.cell? ((Addr.mk b2 0 none).add 12) = some (Sl.v x98)) ∧
              J96 (!r101) w19
            )
            fun l102 w20 =>
            cnd (l102)
              (
              jn (fun (J105 : Unit → World → Prop) => tk w20 fun w21 =>
                ld Sl.v ((Addr.mk b84 0 none).add 12) w21 fun x106 =>
                ld Sl.v ((Addr.mk b2 0 none).add 12) w21 fun x107 =>
                ix x107 l90 1 fun p108 =>
                ld Value.string p108 w21 fun x109 =>
                nw 9 #[(Value.string x109)] w21 fun b110 w22 =>
                (w22.cell? ((Addr.mk b2 0 none).add 12) = some (Sl.v x107)) ∧
                (w22.cell? ((Addr.mk b84 0 none).add 12) = some (Sl.v x106)) ∧
                rn Try.prog (Builtin.append_ #[22, 22] 22 #[Sl.v x106, Sl.v (⟨some ⟨b110, 0, none⟩, 1, 1⟩ : Sl)]) Sl.v w22 fun r111 w23 =>
                (w23.cell? ((Addr.mk b2 0 none).add 12) = some (Sl.v x107)) ∧
                st ((Addr.mk b84 0 none).add 12) [(Sl.v r111)] w23 fun w24 =>
                J105 () w24
              )
              fun _l113 w25 =>
              J93 () w25
              )
              (
              J93 () w20
              )
          )
          fun _l94 w17 =>
          next90 (IntKind.i64.wrap (l90 + 1)) w17
          )
          (
          st ((Addr.mk b84 0 none).add 2) [(Value.int .i64 0)] w16 fun w26 =>
          jn (fun (J115 : Unit → World → Prop) =>
            ld (Value.int .i64) ((Addr.mk b1 0 none).add 1) w26 fun x117 =>
            jp (fun J118 => cnd (decide (x117 = 2))
              (
              ld (Value.int .i64) ((Addr.mk b2 0 none).add 1) w26 fun x120 =>
              J118 (!decide (x120 = 2))
              )
              (
              J118 false
              ))
            fun c121 =>
            cnd (c121)
              (
              ld (Value.int .i64) ((Addr.mk b1 0 none).add 2) w26 fun x123 =>
              st ((Addr.mk b84 0 none).add 2) [(Value.int .i64 x123)] w26 fun w28 =>
              J115 () w28
              )
              (
              J115 () w26
              )
          )
          fun _l116 w27 =>
          jn (fun (J125 : Unit → World → Prop) =>
            ld (Value.int .i64) ((Addr.mk b1 0 none).add 1) w27 fun x127 =>
            jp (fun J128 => cnd (!decide (x127 = 2))
              (
              ld (Value.int .i64) ((Addr.mk b2 0 none).add 1) w27 fun x130 =>
              J128 (decide (x130 = 2))
              )
              (
              J128 false
              ))
            fun c131 =>
            cnd (c131)
              (
              ld (Value.int .i64) ((Addr.mk b2 0 none).add 2) w27 fun x133 =>
              st ((Addr.mk b84 0 none).add 2) [(Value.int .i64 x133)] w27 fun w30 =>
              J125 () w30
              )
              (
              J125 () w27
              )
          )
          fun _l126 w29 =>
          jn (fun (J135 : Unit → World → Prop) =>
            ld (Value.int .i64) ((Addr.mk b1 0 none).add 1) w29 fun x137 =>
            jp (fun J138 => cnd (decide (x137 = 2))
              (
              ld (Value.int .i64) ((Addr.mk b2 0 none).add 1) w29 fun x140 =>
              J138 (decide (x140 = 2))
              )
              (
              J138 false
              ))
            fun c141 =>
            jp (fun J142 => cnd (c141)
              (
              ld (Value.int .i64) ((Addr.mk b1 0 none).add 2) w29 fun x144 =>
              J142 (!decide (x144 = 0))
              )
              (
              J142 false
              ))
            fun c145 =>
            jp (fun J146 => cnd (c145)
              (
              ld (Value.int .i64) ((Addr.mk b2 0 none).add 2) w29 fun x148 =>
              J146 (!decide (x148 = 0))
              )
              (
              J146 false
              ))
            fun c149 =>
            cnd (c149)
              (
              ld (Value.int .i64) ((Addr.mk b1 0 none).add 2) w29 fun x151 =>
              ld (Value.int .i64) ((Addr.mk b2 0 none).add 2) w29 fun x152 =>
              st ((Addr.mk b84 0 none).add 2) [(Value.int .i64 (max x151 x152))] w29 fun w32 =>
              J135 () w32
              )
              (
              J135 () w29
              )
          )
          fun _l136 w31 =>
          L23 (Addr.mk b84 0 none) w31 fun x154 x155 x156 x157 x158 x159 x160 x161 x162 x163 x164 x165 x166 x167 x168 x169 x170 x171 x172 x173 x174 x175 =>
          st (Addr.mk b3 0 none) (S23 x154 x155 x156 x157 x158 x159 x160 x161 x162 x163 x164 x165 x166 x167 x168 x169 x170 x171 x172 x173 x174 x175) w31 fun w33 =>
          L23 (Addr.mk b3 0 none) w33 fun x177 x178 x179 x180 x181 x182 x183 x184 x185 x186 x187 x188 x189 x190 x191 x192 x193 x194 x195 x196 x197 x198 =>
          K (x177, x178, x179, x180, x181, x182, x183, x184, x185, x186, x187, x188, x189, x190, x191, x192, x193, x194, x195, x196, x197, x198) w33
          )
      ) 0 w15
      )
  ) 0 w5
set_option maxRecDepth 100000 in
theorem D18 (p0_0 : ByteArray) (p0_1 : Int) (p0_2 : Int) (p0_3 : Int) (p0_4 : Bool) (p0_5 : Int) (p0_6 : Bool) (p0_7 : Bool) (p0_8 : Int) (p0_9 : Int) (p0_10 : Int) (p0_11 : Int) (p0_12 : Sl) (p0_13 : Int) (p0_14 : Int) (p0_15 : Int) (p0_16 : Int) (p0_17 : Bool) (p0_18 : Int) (p0_19 : Int) (p0_20 : Int) (p0_21 : Int) (p1_0 : ByteArray) (p1_1 : Int) (p1_2 : Int) (p1_3 : Int) (p1_4 : Bool) (p1_5 : Int) (p1_6 : Bool) (p1_7 : Bool) (p1_8 : Int) (p1_9 : Int) (p1_10 : Int) (p1_11 : Int) (p1_12 : Sl) (p1_13 : Int) (p1_14 : Int) (p1_15 : Int) (p1_16 : Int) (p1_17 : Bool) (p1_18 : Int) (p1_19 : Int) (p1_20 : Int) (p1_21 : Int) (w0 : World) (K : T23 → World → Prop) (h : F18 p0_0 p0_1 p0_2 p0_3 p0_4 p0_5 p0_6 p0_7 p0_8 p0_9 p0_10 p0_11 p0_12 p0_13 p0_14 p0_15 p0_16 p0_17 p0_18 p0_19 p0_20 p0_21 p1_0 p1_1 p1_2 p1_3 p1_4 p1_5 p1_6 p1_7 p1_8 p1_9 p1_10 p1_11 p1_12 p1_13 p1_14 p1_15 p1_16 p1_17 p1_18 p1_19 p1_20 p1_21 w0 K) : callC Try.prog 18 #[(V23 p0_0 p0_1 p0_2 p0_3 p0_4 p0_5 p0_6 p0_7 p0_8 p0_9 p0_10 p0_11 p0_12 p0_13 p0_14 p0_15 p0_16 p0_17 p0_18 p0_19 p0_20 p0_21), (V23 p1_0 p1_1 p1_2 p1_3 p1_4 p1_5 p1_6 p1_7 p1_8 p1_9 p1_10 p1_11 p1_12 p1_13 p1_14 p1_15 p1_16 p1_17 p1_18 p1_19 p1_20 p1_21)] E23 w0 K := by
  unfold F18 at h
  refine calls_of_wpC Try.func18 rfl 114 rfl (by simp) ?_
  intro ρ hρ
  have e0 : ρ 0 = (V23 p0_0 p0_1 p0_2 p0_3 p0_4 p0_5 p0_6 p0_7 p0_8 p0_9 p0_10 p0_11 p0_12 p0_13 p0_14 p0_15 p0_16 p0_17 p0_18 p0_19 p0_20 p0_21) := hρ 0
  have e1 : ρ 1 = (V23 p1_0 p1_1 p1_2 p1_3 p1_4 p1_5 p1_6 p1_7 p1_8 p1_9 p1_10 p1_11 p1_12 p1_13 p1_14 p1_15 p1_16 p1_17 p1_18 p1_19 p1_20 p1_21) := hρ 1
  clear hρ
  refine wpC_seq ?_
  refine wpC_region ?_
  obtain ⟨b1, hb1⟩ : ∃ u, u = w0.heap.size := ⟨_, rfl⟩
  obtain ⟨w1, hw1⟩ : ∃ u, u = w0.alloc (.cells (A23 p0_0 p0_1 p0_2 p0_3 p0_4 p0_5 p0_6 p0_7 p0_8 p0_9 p0_10 p0_11 p0_12 p0_13 p0_14 p0_15 p0_16 p0_17 p0_18 p0_19 p0_20 p0_21) 24) := ⟨_, rfl⟩
  replace h := h b1 w1 hb1 hw1
  refine wpR_val (v := (Value.pointer (some (Addr.mk b1 0 none)))) (w' := w1) rfl rfl rfl ((x_box (v := (V23 p0_0 p0_1 p0_2 p0_3 p0_4 p0_5 p0_6 p0_7 p0_8 p0_9 p0_10 p0_11 p0_12 p0_13 p0_14 p0_15 p0_16 p0_17 p0_18 p0_19 p0_20 p0_21)) rfl e0).trans (by rw [hb1, hw1]; rfl)) ?_
  obtain ⟨b2, hb2⟩ : ∃ u, u = w1.heap.size := ⟨_, rfl⟩
  obtain ⟨w2, hw2⟩ : ∃ u, u = w1.alloc (.cells (A23 p1_0 p1_1 p1_2 p1_3 p1_4 p1_5 p1_6 p1_7 p1_8 p1_9 p1_10 p1_11 p1_12 p1_13 p1_14 p1_15 p1_16 p1_17 p1_18 p1_19 p1_20 p1_21) 24) := ⟨_, rfl⟩
  replace h := h b2 w2 hb2 hw2
  refine wpR_val (v := (Value.pointer (some (Addr.mk b2 0 none)))) (w' := w2) rfl rfl rfl ((x_box (v := (V23 p1_0 p1_1 p1_2 p1_3 p1_4 p1_5 p1_6 p1_7 p1_8 p1_9 p1_10 p1_11 p1_12 p1_13 p1_14 p1_15 p1_16 p1_17 p1_18 p1_19 p1_20 p1_21)) rfl e1).trans (by rw [hb2, hw2]; rfl)) ?_
  obtain ⟨b3, hb3⟩ : ∃ u, u = w2.heap.size := ⟨_, rfl⟩
  obtain ⟨w3, hw3⟩ : ∃ u, u = w2.alloc (.cells (A23 (ByteArray.mk #[]) 0 0 0 false 0 false false 0 0 0 0 Sl.nil 0 0 0 0 false 0 0 0 0) 24) := ⟨_, rfl⟩
  replace h := h b3 w3 hb3 hw3
  refine wpR_val (v := (Value.pointer (some (Addr.mk b3 0 none)))) (w' := w3) rfl rfl rfl ((x_alloc rfl ZV_24).trans (by rw [hb3, hw3]; rfl)) ?_
  refine wpR_nil ?_
  refine wpC_seq ?_
  refine wpC_cut (fun ρ => ρ 2 = (Value.pointer (some (Addr.mk b1 0 none))) ∧ ρ 3 = (Value.pointer (some (Addr.mk b2 0 none))) ∧ ρ 4 = (Value.pointer (some (Addr.mk b3 0 none))) ∧ True) ⟨rfl, rfl, rfl, trivial⟩ ?_
  rintro ρ ⟨e2, e3, e4, -⟩
  refine wpC_region ?_
  obtain ⟨x4, q4, x5, q5, x6, q6, x7, q7, x8, q8, x9, q9, x10, q10, x11, q11, x12, q12, x13, q13, x14, q14, x15, q15, x16, q16, x17, q17, x18, q18, x19, q19, x20, q20, x21, q21, x22, q22, x23, q23, x24, q24, x25, q25, h⟩ := h
  refine wpR_val (v := (V23 x4 x5 x6 x7 x8 x9 x10 x11 x12 x13 x14 x15 x16 x17 x18 x19 x20 x21 x22 x23 x24 x25)) (w' := w3) rfl rfl rfl (x_loadN (S23 x4 x5 x6 x7 x8 x9 x10 x11 x12 x13 x14 x15 x16 x17 x18 x19 x20 x21 x22 x23 x24 x25) rfl e2 SH_24 (K23 ⟨q4, q5, q6, q7, q8, q9, q10, q11, q12, q13, q14, q15, q16, q17, q18, q19, q20, q21, q22, q23, q24, q25⟩)) ?_
  refine wpR_enter rfl rfl rfl (x_call (vs := [(V23 x4 x5 x6 x7 x8 x9 x10 x11 x12 x13 x14 x15 x16 x17 x18 x19 x20 x21 x22 x23 x24 x25)]) rfl rfl (mapl_cons rfl mapl_nil) Try.func31 NN_31 NB_31) (Calls.mono h ?_)
  rintro _ w4 ⟨r26, rfl, h⟩
  refine ⟨_, rfl, ?_⟩
  refine wpR_val (v := (Sl.v r26)) (w' := w4) rfl rfl rfl (x_assign (v := (Sl.v r26)) rfl rfl) ?_
  refine wpR_nil ?_
  refine wpC_seq ?_
  refine wpC_cut (fun ρ => ρ 2 = (Value.pointer (some (Addr.mk b1 0 none))) ∧ ρ 3 = (Value.pointer (some (Addr.mk b2 0 none))) ∧ ρ 4 = (Value.pointer (some (Addr.mk b3 0 none))) ∧ ρ 5 = (Sl.v r26) ∧ True) ⟨e2, e3, e4, rfl, trivial⟩ ?_
  rintro ρ ⟨e2, e3, e4, e5, -⟩
  refine wpC_region ?_
  obtain ⟨x27, q27, x28, q28, x29, q29, x30, q30, x31, q31, x32, q32, x33, q33, x34, q34, x35, q35, x36, q36, x37, q37, x38, q38, x39, q39, x40, q40, x41, q41, x42, q42, x43, q43, x44, q44, x45, q45, x46, q46, x47, q47, x48, q48, h⟩ := h
  refine wpR_val (v := (V23 x27 x28 x29 x30 x31 x32 x33 x34 x35 x36 x37 x38 x39 x40 x41 x42 x43 x44 x45 x46 x47 x48)) (w' := w4) rfl rfl rfl (x_loadN (S23 x27 x28 x29 x30 x31 x32 x33 x34 x35 x36 x37 x38 x39 x40 x41 x42 x43 x44 x45 x46 x47 x48) rfl e3 SH_24 (K23 ⟨q27, q28, q29, q30, q31, q32, q33, q34, q35, q36, q37, q38, q39, q40, q41, q42, q43, q44, q45, q46, q47, q48⟩)) ?_
  refine wpR_enter rfl rfl rfl (x_call (vs := [(V23 x27 x28 x29 x30 x31 x32 x33 x34 x35 x36 x37 x38 x39 x40 x41 x42 x43 x44 x45 x46 x47 x48)]) rfl rfl (mapl_cons rfl mapl_nil) Try.func31 NN_31 NB_31) (Calls.mono h ?_)
  rintro _ w5 ⟨r49, rfl, h⟩
  refine ⟨_, rfl, ?_⟩
  refine wpR_val (v := (Sl.v r49)) (w' := w5) rfl rfl rfl (x_assign (v := (Sl.v r49)) rfl rfl) ?_
  refine wpR_nil ?_
  refine wpC_seq ?_
  refine wpC_seq ?_
  refine wpC_cut (fun ρ => ρ 2 = (Value.pointer (some (Addr.mk b1 0 none))) ∧ ρ 3 = (Value.pointer (some (Addr.mk b2 0 none))) ∧ ρ 4 = (Value.pointer (some (Addr.mk b3 0 none))) ∧ ρ 5 = (Sl.v r26) ∧ ρ 6 = (Sl.v r49) ∧ True) ⟨e2, e3, e4, e5, rfl, trivial⟩ ?_
  rintro ρ ⟨e2, e3, e4, e5, e6, -⟩
  refine wpC_region ?_
  refine wpR_val (v := (Value.int .i64 0)) (w' := w5) rfl rfl rfl (x_assign (v := (Value.int .i64 0)) rfl rfl) ?_
  refine wpR_nil ?_
  refine wpC_block ?_
  obtain ⟨I50, μ50, hI50, hr50⟩ := h
  refine wpC_loop (fun (x : Int) ρ => ρ 7 = (Value.int .i64 x) ∧ ρ 2 = (Value.pointer (some (Addr.mk b1 0 none))) ∧ ρ 3 = (Value.pointer (some (Addr.mk b2 0 none))) ∧ ρ 4 = (Value.pointer (some (Addr.mk b3 0 none))) ∧ ρ 5 = (Sl.v r26) ∧ ρ 6 = (Sl.v r49) ∧ True) I50 μ50 0 ⟨rfl, e2, e3, e4, e5, e6, trivial⟩ hI50 ?_
  rintro l50 ρ w6 ⟨e7, e2, e3, e4, e5, e6, -⟩ h
  replace h := hr50 l50 w6 h
  clear hr50 hI50
  refine wpC_seq ?_
  refine wpC_seq ?_
  refine wpC_region ?_
  refine wpR_val (v := (Value.int .i64 l50)) (w' := w6) rfl rfl rfl (x_move (v := (Value.int .i64 l50)) rfl e7) ?_
  refine wpR_val (v := (Sl.v r26)) (w' := w6) rfl rfl rfl (x_move (v := (Sl.v r26)) rfl e5) ?_
  refine wpR_val (v := (Value.int .i64 (r26.len : Int))) (w' := w6) rfl rfl rfl (x_lenS (s := r26) rfl rfl isSliceT_38) ?_
  refine wpR_val (v := (Value.bool (decide (l50 < (r26.len : Int))))) (w' := w6) rfl rfl rfl (x_lss rfl rfl rfl) ?_
  refine wpR_nil ?_
  refine wpC_cond (b := decide (l50 < (r26.len : Int))) rfl (fun hc51 => ?_) (fun hc51 => ?_)
  · replace h := h.1 hc51
    refine wpC_skip ?_
    refine wpC_seq ?_
    refine wpC_block ?_
    refine wpC_cut (fun ρ => ρ 2 = (Value.pointer (some (Addr.mk b1 0 none))) ∧ ρ 3 = (Value.pointer (some (Addr.mk b2 0 none))) ∧ ρ 4 = (Value.pointer (some (Addr.mk b3 0 none))) ∧ ρ 5 = (Sl.v r26) ∧ ρ 6 = (Sl.v r49) ∧ ρ 7 = (Value.int .i64 l50) ∧ True) ⟨e2, e3, e4, e5, e6, e7, trivial⟩ ?_
    rintro ρ ⟨e2, e3, e4, e5, e6, e7, -⟩
    obtain ⟨J53, h, hk⟩ := h
    refine wpC_drawJ (by kernel_rfl) (fun (x : Unit) ρ => ρ 2 = (Value.pointer (some (Addr.mk b1 0 none))) ∧ ρ 3 = (Value.pointer (some (Addr.mk b2 0 none))) ∧ ρ 4 = (Value.pointer (some (Addr.mk b3 0 none))) ∧ ρ 5 = (Sl.v r26) ∧ ρ 6 = (Sl.v r49) ∧ ρ 7 = (Value.int .i64 l50) ∧ True) J53 ?_ ?_
    · clear hk
      unfold tk at h
      generalize w6.drew = w7 at h ⊢
      refine wpD_take (v := (Sl.v r26)) 0 (fun _ => True) rfl (by kernel_rfl) (by kernel_rfl) (by kernel_rfl) rfl rfl rfl trivial (fun w _ => (x_move (v := (Sl.v r26)) rfl e5)) ?_
      refine wpD_take (v := (Value.int .i64 l50)) 1 (fun _ => True) rfl (by kernel_rfl) (by kernel_rfl) (by kernel_rfl) rfl rfl rfl trivial (fun w _ => (x_move (v := (Value.int .i64 l50)) rfl e7)) ?_
      refine wpD_take (v := (Sl.v r26)) 2 (fun _ => True) rfl (by kernel_rfl) (by kernel_rfl) (by kernel_rfl) rfl rfl rfl trivial (fun w _ => (x_move (v := (Sl.v r26)) rfl e5)) ?_
      refine wpD_take (v := (Value.int .i64 l50)) 3 (fun _ => True) rfl (by kernel_rfl) (by kernel_rfl) (by kernel_rfl) rfl rfl rfl trivial (fun w _ => (x_move (v := (Value.int .i64 l50)) rfl e7)) ?_
      obtain ⟨q54, z54, r54, h⟩ := h
      generalize hp54 : z54.add ((l50 : Int).toNat * 1) = p54 at h
      refine wpD_take (v := (Value.pointer (some p54))) 4 (fun _ => True) rfl (by kernel_rfl) (by kernel_rfl) (by kernel_rfl) rfl rfl rfl trivial (fun w _ => ((x_indexAddr (s := r26) rfl rfl rfl ES_38 q54 r54).trans (by rw [hp54]))) ?_
      obtain ⟨x55, q55, h⟩ := h
      refine wpD_take (v := (Value.int .i64 x55)) 5 (fun w => w.cell? p54 = some (Value.int .i64 x55)) rfl (by kernel_rfl) (by kernel_rfl) (by kernel_rfl) rfl rfl rfl q55 (fun w q55 => (x_load1 rfl rfl SH_3 q55)) ?_
      refine wpD_take (v := (Sl.v r49)) 6 (fun _ => True) rfl (by kernel_rfl) (by kernel_rfl) (by kernel_rfl) rfl rfl rfl trivial (fun w _ => (x_move (v := (Sl.v r49)) rfl e6)) ?_
      refine wpD_take (v := (Value.int .i64 l50)) 7 (fun _ => True) rfl (by kernel_rfl) (by kernel_rfl) (by kernel_rfl) rfl rfl rfl trivial (fun w _ => (x_move (v := (Value.int .i64 l50)) rfl e7)) ?_
      obtain ⟨q56, z56, r56, h⟩ := h
      generalize hp56 : z56.add ((l50 : Int).toNat * 1) = p56 at h
      refine wpD_take (v := (Value.pointer (some p56))) 8 (fun _ => True) rfl (by kernel_rfl) (by kernel_rfl) (by kernel_rfl) rfl rfl rfl trivial (fun w _ => ((x_indexAddr (s := r49) rfl rfl rfl ES_38 q56 r56).trans (by rw [hp56]))) ?_
      obtain ⟨x57, q57, h⟩ := h
      refine wpD_take (v := (Value.int .i64 x57)) 9 (fun w => w.cell? p56 = some (Value.int .i64 x57)) rfl (by kernel_rfl) (by kernel_rfl) (by kernel_rfl) rfl rfl rfl q57 (fun w q57 => (x_load1 rfl rfl SH_3 q57)) ?_
      refine wpD_take (v := (Value.int .i64 (max x55 x57))) 10 (fun _ => True) rfl (by kernel_rfl) (by kernel_rfl) (by kernel_rfl) rfl rfl rfl trivial (fun w _ => (x_max rfl rfl rfl)) ?_
      obtain ⟨q58, z58, r58, h⟩ := h
      generalize hp58 : z58.add ((l50 : Int).toNat * 1) = p58 at h
      refine wpD_take (v := (Value.pointer (some p58))) 11 (fun _ => True) rfl (by kernel_rfl) (by kernel_rfl) (by kernel_rfl) rfl rfl rfl trivial (fun w _ => ((x_indexAddr (s := r26) rfl rfl rfl ES_38 q58 r58).trans (by rw [hp58]))) ?_
      refine wpD_all (rs := [12]) (by kernel_rfl) (by simp) (allD_cons ?_ allD_nil)
      obtain ⟨q59, h⟩ := h
      obtain ⟨w8, hw59⟩ : ∃ u, u = setAll w7 p58 [(Value.int .i64 (max x55 x57))] 0 := ⟨_, rfl⟩
      replace h := h w8 hw59
      refine stepD_skpL (L' := []) (w' := w8) rfl rfl rfl ((x_store (v := (Value.int .i64 (max x55 x57))) rfl rfl rfl SZ_3 (ones (by rfl)) q59).trans (by rw [hw59]; rfl)) (by kernel_rfl) held_nil ?_
      exact wpD_done (by kernel_rfl) ⟨(), ⟨e2, e3, e4, e5, e6, e7, trivial⟩, h⟩
    clear h
    rintro l60 ρ w9 ⟨e2, e3, e4, e5, e6, e7, -⟩ h
    replace h := hk l60 w9 h
    clear hk
    refine wpC_region ?_
    refine wpR_val (v := (Value.int .i64 l50)) (w' := w9) rfl rfl rfl (x_move (v := (Value.int .i64 l50)) rfl e7) ?_
    refine wpR_val (v := (Value.int .i64 (IntKind.i64.wrap (l50 + 1)))) (w' := w9) rfl rfl rfl (x_add rfl rfl rfl) ?_
    refine wpR_val (v := (Value.int .i64 (IntKind.i64.wrap (l50 + 1)))) (w' := w9) rfl rfl rfl (x_assign (v := (Value.int .i64 (IntKind.i64.wrap (l50 + 1)))) rfl rfl) ?_
    refine wpR_nil ?_
    exact ⟨IntKind.i64.wrap (l50 + 1), ⟨rfl, e2, e3, e4, e5, e6, trivial⟩, h⟩
  · replace h := h.2 hc51
    refine wpC_exit ?_
    refine wpC_seq ?_
    refine wpC_cut (fun ρ => ρ 2 = (Value.pointer (some (Addr.mk b1 0 none))) ∧ ρ 3 = (Value.pointer (some (Addr.mk b2 0 none))) ∧ ρ 4 = (Value.pointer (some (Addr.mk b3 0 none))) ∧ ρ 5 = (Sl.v r26) ∧ True) ⟨e2, e3, e4, e5, trivial⟩ ?_
    rintro ρ ⟨e2, e3, e4, e5, -⟩
    refine wpC_region ?_
    obtain ⟨x61, q61, x62, q62, x63, q63, x64, q64, x65, q65, x66, q66, x67, q67, x68, q68, x69, q69, x70, q70, x71, q71, x72, q72, x73, q73, x74, q74, x75, q75, x76, q76, x77, q77, x78, q78, x79, q79, x80, q80, x81, q81, x82, q82, h⟩ := h
    refine wpR_val (v := (V23 x61 x62 x63 x64 x65 x66 x67 x68 x69 x70 x71 x72 x73 x74 x75 x76 x77 x78 x79 x80 x81 x82)) (w' := w6) rfl rfl rfl (x_loadN (S23 x61 x62 x63 x64 x65 x66 x67 x68 x69 x70 x71 x72 x73 x74 x75 x76 x77 x78 x79 x80 x81 x82) rfl e2 SH_24 (K23 ⟨q61, q62, q63, q64, q65, q66, q67, q68, q69, q70, q71, q72, q73, q74, q75, q76, q77, q78, q79, q80, q81, q82⟩)) ?_
    refine wpR_val (v := (Sl.v r26)) (w' := w6) rfl rfl rfl (x_move (v := (Sl.v r26)) rfl e5) ?_
    refine wpR_enter rfl rfl rfl (x_call (vs := [(V23 x61 x62 x63 x64 x65 x66 x67 x68 x69 x70 x71 x72 x73 x74 x75 x76 x77 x78 x79 x80 x81 x82), (Sl.v r26)]) rfl rfl (mapl_cons rfl (mapl_cons rfl mapl_nil)) Try.func33 NN_33 NB_33) (Calls.mono h ?_)
    rintro _ w10 ⟨r83, rfl, h⟩
    refine ⟨_, rfl, ?_⟩
    obtain ⟨b84, hb84⟩ : ∃ u, u = w10.heap.size := ⟨_, rfl⟩
    obtain ⟨w11, hw84⟩ : ∃ u, u = w10.alloc (.cells (A23 (ByteArray.mk #[]) 0 0 0 false 0 false false 0 0 0 0 Sl.nil 0 0 0 0 false 0 0 0 0) 24) := ⟨_, rfl⟩
    replace h := h b84 w11 hb84 hw84
    refine wpR_val (v := (Value.pointer (some (Addr.mk b84 0 none)))) (w' := w11) rfl rfl rfl ((x_alloc rfl ZV_24).trans (by rw [hb84, hw84]; rfl)) ?_
    obtain ⟨q85, h⟩ := h
    obtain ⟨w12, hw85⟩ : ∃ u, u = setAll w11 (Addr.mk b84 0 none) (S23 r83.1 r83.2.1 r83.2.2.1 r83.2.2.2.1 r83.2.2.2.2.1 r83.2.2.2.2.2.1 r83.2.2.2.2.2.2.1 r83.2.2.2.2.2.2.2.1 r83.2.2.2.2.2.2.2.2.1 r83.2.2.2.2.2.2.2.2.2.1 r83.2.2.2.2.2.2.2.2.2.2.1 r83.2.2.2.2.2.2.2.2.2.2.2.1 r83.2.2.2.2.2.2.2.2.2.2.2.2.1 r83.2.2.2.2.2.2.2.2.2.2.2.2.2.1 r83.2.2.2.2.2.2.2.2.2.2.2.2.2.2.1 r83.2.2.2.2.2.2.2.2.2.2.2.2.2.2.2.1 r83.2.2.2.2.2.2.2.2.2.2.2.2.2.2.2.2.1 r83.2.2.2.2.2.2.2.2.2.2.2.2.2.2.2.2.2.1 r83.2.2.2.2.2.2.2.2.2.2.2.2.2.2.2.2.2.2.1 r83.2.2.2.2.2.2.2.2.2.2.2.2.2.2.2.2.2.2.2.1 r83.2.2.2.2.2.2.2.2.2.2.2.2.2.2.2.2.2.2.2.2.1 r83.2.2.2.2.2.2.2.2.2.2.2.2.2.2.2.2.2.2.2.2.2) 0 := ⟨_, rfl⟩
    replace h := h w12 hw85
    refine wpR_skp (w' := w12) rfl rfl ((x_store (v := (V23 r83.1 r83.2.1 r83.2.2.1 r83.2.2.2.1 r83.2.2.2.2.1 r83.2.2.2.2.2.1 r83.2.2.2.2.2.2.1 r83.2.2.2.2.2.2.2.1 r83.2.2.2.2.2.2.2.2.1 r83.2.2.2.2.2.2.2.2.2.1 r83.2.2.2.2.2.2.2.2.2.2.1 r83.2.2.2.2.2.2.2.2.2.2.2.1 r83.2.2.2.2.2.2.2.2.2.2.2.2.1 r83.2.2.2.2.2.2.2.2.2.2.2.2.2.1 r83.2.2.2.2.2.2.2.2.2.2.2.2.2.2.1 r83.2.2.2.2.2.2.2.2.2.2.2.2.2.2.2.1 r83.2.2.2.2.2.2.2.2.2.2.2.2.2.2.2.2.1 r83.2.2.2.2.2.2.2.2.2.2.2.2.2.2.2.2.2.1 r83.2.2.2.2.2.2.2.2.2.2.2.2.2.2.2.2.2.2.1 r83.2.2.2.2.2.2.2.2.2.2.2.2.2.2.2.2.2.2.2.1 r83.2.2.2.2.2.2.2.2.2.2.2.2.2.2.2.2.2.2.2.2.1 r83.2.2.2.2.2.2.2.2.2.2.2.2.2.2.2.2.2.2.2.2.2)) rfl rfl rfl SZ_24 (ones (by rfl)) q85).trans (by rw [hw85]; rfl)) ?_
    refine wpR_nil ?_
    refine wpC_seq ?_
    refine wpC_cut (fun ρ => ρ 2 = (Value.pointer (some (Addr.mk b1 0 none))) ∧ ρ 3 = (Value.pointer (some (Addr.mk b2 0 none))) ∧ ρ 4 = (Value.pointer (some (Addr.mk b3 0 none))) ∧ ρ 8 = (Value.pointer (some (Addr.mk b84 0 none))) ∧ True) ⟨e2, e3, e4, rfl, trivial⟩ ?_
    rintro ρ ⟨e2, e3, e4, e8, -⟩
    refine wpC_region ?_
    obtain ⟨b86, hb86⟩ : ∃ u, u = w12.heap.size := ⟨_, rfl⟩
    obtain ⟨w13, hw86⟩ : ∃ u, u = w12.alloc (.cells #[] 9) := ⟨_, rfl⟩
    replace h := h b86 w13 hb86 hw86
    refine wpR_val (v := (Sl.v (⟨some ⟨b86, 0, none⟩, 0, 0⟩ : Sl))) (w' := w13) rfl rfl rfl ((x_buildSlice (qs := []) rfl (by rfl) (BS_22_0_ )).trans (by rw [← hb86, ← hw86])) ?_
    refine wpR_val (v := (Value.pointer (some ((Addr.mk b1 0 none).add 12)))) (w' := w13) rfl rfl rfl (x_fieldAddr rfl e2 FA_24_12) ?_
    obtain ⟨x87, q87, h⟩ := h
    refine wpR_val (v := (Sl.v x87)) (w' := w13) rfl rfl rfl (x_load1 rfl rfl SH_22 q87) ?_
    obtain ⟨r88, w14, q88, h⟩ := h
    refine wpR_val (v := (Sl.v r88)) (w' := w14) rfl rfl rfl (x_append (s := (⟨some ⟨b86, 0, none⟩, 0, 0⟩ : Sl)) (u := x87) rfl rfl rfl rfl q88) ?_
    refine wpR_val (v := (Value.pointer (some ((Addr.mk b84 0 none).add 12)))) (w' := w14) rfl rfl rfl (x_fieldAddr rfl e8 FA_24_12) ?_
    obtain ⟨q89, h⟩ := h
    obtain ⟨w15, hw89⟩ : ∃ u, u = setAll w14 ((Addr.mk b84 0 none).add 12) [(Sl.v r88)] 0 := ⟨_, rfl⟩
    replace h := h w15 hw89
    refine wpR_skp (w' := w15) rfl rfl ((x_store (v := (Sl.v r88)) rfl rfl rfl SZ_22 (ones (by rfl)) q89).trans (by rw [hw89]; rfl)) ?_
    refine wpR_nil ?_
    refine wpC_seq ?_
    refine wpC_seq ?_
    refine wpC_cut (fun ρ => ρ 2 = (Value.pointer (some (Addr.mk b1 0 none))) ∧ ρ 3 = (Value.pointer (some (Addr.mk b2 0 none))) ∧ ρ 4 = (Value.pointer (some (Addr.mk b3 0 none))) ∧ ρ 8 = (Value.pointer (some (Addr.mk b84 0 none))) ∧ True) ⟨e2, e3, e4, e8, trivial⟩ ?_
    rintro ρ ⟨e2, e3, e4, e8, -⟩
    refine wpC_region ?_
    refine wpR_val (v := (Value.int .i64 0)) (w' := w15) rfl rfl rfl (x_assign (v := (Value.int .i64 0)) rfl rfl) ?_
    refine wpR_nil ?_
    refine wpC_block ?_
    obtain ⟨I90, μ90, hI90, hr90⟩ := h
    refine wpC_loop (fun (x : Int) ρ => ρ 9 = (Value.int .i64 x) ∧ ρ 2 = (Value.pointer (some (Addr.mk b1 0 none))) ∧ ρ 3 = (Value.pointer (some (Addr.mk b2 0 none))) ∧ ρ 4 = (Value.pointer (some (Addr.mk b3 0 none))) ∧ ρ 8 = (Value.pointer (some (Addr.mk b84 0 none))) ∧ True) I90 μ90 0 ⟨rfl, e2, e3, e4, e8, trivial⟩ hI90 ?_
    rintro l90 ρ w16 ⟨e9, e2, e3, e4, e8, -⟩ h
    replace h := hr90 l90 w16 h
    clear hr90 hI90
    refine wpC_seq ?_
    refine wpC_seq ?_
    refine wpC_region ?_
    refine wpR_val (v := (Value.int .i64 l90)) (w' := w16) rfl rfl rfl (x_move (v := (Value.int .i64 l90)) rfl e9) ?_
    refine wpR_val (v := (Value.pointer (some ((Addr.mk b2 0 none).add 12)))) (w' := w16) rfl rfl rfl (x_fieldAddr rfl e3 FA_24_12) ?_
    obtain ⟨x91, q91, h⟩ := h
    refine wpR_val (v := (Sl.v x91)) (w' := w16) rfl rfl rfl (x_load1 rfl rfl SH_22 q91) ?_
    refine wpR_val (v := (Value.int .i64 (x91.len : Int))) (w' := w16) rfl rfl rfl (x_lenS (s := x91) rfl rfl isSliceT_22) ?_
    refine wpR_val (v := (Value.bool (decide (l90 < (x91.len : Int))))) (w' := w16) rfl rfl rfl (x_lss rfl rfl rfl) ?_
    refine wpR_nil ?_
    refine wpC_cond (b := decide (l90 < (x91.len : Int))) rfl (fun hc92 => ?_) (fun hc92 => ?_)
    · replace h := h.1 hc92
      refine wpC_skip ?_
      obtain ⟨J93, h, hk⟩ := h
      refine wpC_seqJ (fun (x : Unit) ρ => ρ 2 = (Value.pointer (some (Addr.mk b1 0 none))) ∧ ρ 3 = (Value.pointer (some (Addr.mk b2 0 none))) ∧ ρ 4 = (Value.pointer (some (Addr.mk b3 0 none))) ∧ ρ 8 = (Value.pointer (some (Addr.mk b84 0 none))) ∧ ρ 9 = (Value.int .i64 l90) ∧ True) J93 ?_ ?_
      · clear hk
        refine wpC_block ?_
        refine wpC_seq ?_
        refine wpC_cut (fun ρ => ρ 2 = (Value.pointer (some (Addr.mk b1 0 none))) ∧ ρ 3 = (Value.pointer (some (Addr.mk b2 0 none))) ∧ ρ 4 = (Value.pointer (some (Addr.mk b3 0 none))) ∧ ρ 8 = (Value.pointer (some (Addr.mk b84 0 none))) ∧ ρ 9 = (Value.int .i64 l90) ∧ True) ⟨e2, e3, e4, e8, e9, trivial⟩ ?_
        rintro ρ ⟨e2, e3, e4, e8, e9, -⟩
        obtain ⟨J96, h, hk⟩ := h
        refine wpC_drawJ (by kernel_rfl) (fun (x : Bool) ρ => ρ 55 = (Value.bool x) ∧ ρ 2 = (Value.pointer (some (Addr.mk b1 0 none))) ∧ ρ 3 = (Value.pointer (some (Addr.mk b2 0 none))) ∧ ρ 4 = (Value.pointer (some (Addr.mk b3 0 none))) ∧ ρ 8 = (Value.pointer (some (Addr.mk b84 0 none))) ∧ ρ 9 = (Value.int .i64 l90) ∧ True) J96 ?_ ?_
        · clear hk
          unfold tk at h
          generalize w16.drew = w18 at h ⊢
          refine wpD_take (v := (Value.pointer (some ((Addr.mk b1 0 none).add 12)))) 0 (fun _ => True) rfl (by kernel_rfl) (by kernel_rfl) (by kernel_rfl) rfl rfl rfl trivial (fun w _ => (x_fieldAddr rfl e2 FA_24_12)) ?_
          obtain ⟨x97, q97, h⟩ := h
          refine wpD_take (v := (Sl.v x97)) 1 (fun w => w.cell? ((Addr.mk b1 0 none).add 12) = some (Sl.v x97)) rfl (by kernel_rfl) (by kernel_rfl) (by kernel_rfl) rfl rfl rfl q97 (fun w q97 => (x_load1 rfl rfl SH_22 q97)) ?_
          refine wpD_take (v := (Value.pointer (some ((Addr.mk b2 0 none).add 12)))) 2 (fun _ => True) rfl (by kernel_rfl) (by kernel_rfl) (by kernel_rfl) rfl rfl rfl trivial (fun w _ => (x_fieldAddr rfl e3 FA_24_12)) ?_
          obtain ⟨x98, q98, h⟩ := h
          refine wpD_take (v := (Sl.v x98)) 3 (fun w => w.cell? ((Addr.mk b2 0 none).add 12) = some (Sl.v x98)) rfl (by kernel_rfl) (by kernel_rfl) (by kernel_rfl) rfl rfl rfl q98 (fun w q98 => (x_load1 rfl rfl SH_22 q98)) ?_
          refine wpD_take (v := (Value.int .i64 l90)) 4 (fun _ => True) rfl (by kernel_rfl) (by kernel_rfl) (by kernel_rfl) rfl rfl rfl trivial (fun w _ => (x_move (v := (Value.int .i64 l90)) rfl e9)) ?_
          obtain ⟨q99, z99, r99, h⟩ := h
          generalize hp99 : z99.add ((l90 : Int).toNat * 1) = p99 at h
          refine wpD_take (v := (Value.pointer (some p99))) 5 (fun _ => True) rfl (by kernel_rfl) (by kernel_rfl) (by kernel_rfl) rfl rfl rfl trivial (fun w _ => ((x_indexAddr (s := x98) rfl rfl rfl ES_22 q99 r99).trans (by rw [hp99]))) ?_
          obtain ⟨x100, q100, h⟩ := h
          refine wpD_take (v := (Value.string x100)) 6 (fun w => w.cell? p99 = some (Value.string x100)) rfl (by kernel_rfl) (by kernel_rfl) (by kernel_rfl) rfl rfl rfl q100 (fun w q100 => (x_load1 rfl rfl SH_9 q100)) ?_
          refine wpD_all (rs := [7]) (by kernel_rfl) (by simp) (allD_cons ?_ allD_nil)
          refine stepD_enterL (L' := [(5, fun _ => True), (4, fun _ => True), (3, fun w => w.cell? ((Addr.mk b2 0 none).add 12) = some (Sl.v x98)), (2, fun _ => True), (0, fun _ => True)]) rfl rfl rfl rfl (x_call (vs := [(Sl.v x97), (Value.string x100)]) rfl rfl (mapl_cons rfl (mapl_cons rfl mapl_nil)) Try.func32 NN_32 NB_32) (by kernel_rfl) (Calls.mono h ?_)
          rintro _ w19 ⟨r101, rfl, h⟩
          obtain ⟨o3, h⟩ := h
          refine ⟨_, rfl, (held_cons trivial (held_cons trivial (held_cons o3 (held_cons trivial (held_cons trivial held_nil))))), ?_⟩
          refine wpD_take (v := (Value.bool (!r101))) 8 (fun _ => True) rfl (by kernel_rfl) (by kernel_rfl) (by kernel_rfl) rfl rfl rfl trivial (fun w _ => (x_not rfl rfl)) ?_
          exact wpD_done (by kernel_rfl) ⟨!r101, ⟨rfl, e2, e3, e4, e8, e9, trivial⟩, h⟩
        clear h
        rintro l102 ρ w20 ⟨e55, e2, e3, e4, e8, e9, -⟩ h
        replace h := hk l102 w20 h
        clear hk
        refine wpC_cond (b := l102) e55 (fun hc103 => ?_) (fun hc103 => ?_)
        · replace h := h.1 hc103
          obtain ⟨J105, h, hk⟩ := h
          refine wpC_drawJ (by kernel_rfl) (fun (x : Unit) ρ => ρ 2 = (Value.pointer (some (Addr.mk b1 0 none))) ∧ ρ 3 = (Value.pointer (some (Addr.mk b2 0 none))) ∧ ρ 4 = (Value.pointer (some (Addr.mk b3 0 none))) ∧ ρ 8 = (Value.pointer (some (Addr.mk b84 0 none))) ∧ ρ 9 = (Value.int .i64 l90) ∧ True) J105 ?_ ?_
          · clear hk
            unfold tk at h
            generalize w20.drew = w21 at h ⊢
            refine wpD_take (v := (Value.pointer (some ((Addr.mk b84 0 none).add 12)))) 0 (fun _ => True) rfl (by kernel_rfl) (by kernel_rfl) (by kernel_rfl) rfl rfl rfl trivial (fun w _ => (x_fieldAddr rfl e8 FA_24_12)) ?_
            obtain ⟨x106, q106, h⟩ := h
            refine wpD_take (v := (Sl.v x106)) 1 (fun w => w.cell? ((Addr.mk b84 0 none).add 12) = some (Sl.v x106)) rfl (by kernel_rfl) (by kernel_rfl) (by kernel_rfl) rfl rfl rfl q106 (fun w q106 => (x_load1 rfl rfl SH_22 q106)) ?_
            refine wpD_take (v := (Value.pointer (some ((Addr.mk b2 0 none).add 12)))) 2 (fun _ => True) rfl (by kernel_rfl) (by kernel_rfl) (by kernel_rfl) rfl rfl rfl trivial (fun w _ => (x_fieldAddr rfl e3 FA_24_12)) ?_
            obtain ⟨x107, q107, h⟩ := h
            refine wpD_take (v := (Sl.v x107)) 3 (fun w => w.cell? ((Addr.mk b2 0 none).add 12) = some (Sl.v x107)) rfl (by kernel_rfl) (by kernel_rfl) (by kernel_rfl) rfl rfl rfl q107 (fun w q107 => (x_load1 rfl rfl SH_22 q107)) ?_
            refine wpD_take (v := (Value.int .i64 l90)) 4 (fun _ => True) rfl (by kernel_rfl) (by kernel_rfl) (by kernel_rfl) rfl rfl rfl trivial (fun w _ => (x_move (v := (Value.int .i64 l90)) rfl e9)) ?_
            obtain ⟨q108, z108, r108, h⟩ := h
            generalize hp108 : z108.add ((l90 : Int).toNat * 1) = p108 at h
            refine wpD_take (v := (Value.pointer (some p108))) 5 (fun _ => True) rfl (by kernel_rfl) (by kernel_rfl) (by kernel_rfl) rfl rfl rfl trivial (fun w _ => ((x_indexAddr (s := x107) rfl rfl rfl ES_22 q108 r108).trans (by rw [hp108]))) ?_
            obtain ⟨x109, q109, h⟩ := h
            refine wpD_take (v := (Value.string x109)) 6 (fun w => w.cell? p108 = some (Value.string x109)) rfl (by kernel_rfl) (by kernel_rfl) (by kernel_rfl) rfl rfl rfl q109 (fun w q109 => (x_load1 rfl rfl SH_9 q109)) ?_
            refine wpD_all (rs := [7]) (by kernel_rfl) (by simp) (allD_cons ?_ allD_nil)
            obtain ⟨b110, hb110⟩ : ∃ u, u = w21.heap.size := ⟨_, rfl⟩
            obtain ⟨w22, hw110⟩ : ∃ u, u = w21.alloc (.cells #[(Value.string x109)] 9) := ⟨_, rfl⟩
            replace h := h b110 w22 hb110 hw110
            obtain ⟨o3, h⟩ := h
            obtain ⟨o1, h⟩ := h
            refine stepD_valL (L' := [(5, fun _ => True), (4, fun _ => True), (3, fun w => w.cell? ((Addr.mk b2 0 none).add 12) = some (Sl.v x107)), (2, fun _ => True), (1, fun w => w.cell? ((Addr.mk b84 0 none).add 12) = some (Sl.v x106)), (0, fun _ => True)]) (v := (Sl.v (⟨some ⟨b110, 0, none⟩, 1, 1⟩ : Sl))) (w' := w22) rfl rfl rfl rfl ((x_buildSlice (qs := [(0, (Value.string x109))]) rfl (by rfl) (BS_22_1_0 x109)).trans (by rw [← hb110, ← hw110])) (by kernel_rfl) (held_cons trivial (held_cons trivial (held_cons o3 (held_cons trivial (held_cons o1 (held_cons trivial held_nil)))))) ?_
            refine wpD_all (rs := [8]) (by kernel_rfl) (by simp) (allD_cons ?_ allD_nil)
            obtain ⟨r111, w23, q111, h⟩ := h
            obtain ⟨o3, h⟩ := h
            refine stepD_valL (L' := [(5, fun _ => True), (4, fun _ => True), (3, fun w => w.cell? ((Addr.mk b2 0 none).add 12) = some (Sl.v x107)), (2, fun _ => True), (0, fun _ => True)]) (v := (Sl.v r111)) (w' := w23) rfl rfl rfl rfl (x_append (s := x106) (u := (⟨some ⟨b110, 0, none⟩, 1, 1⟩ : Sl)) rfl rfl rfl rfl q111) (by kernel_rfl) (held_cons trivial (held_cons trivial (held_cons o3 (held_cons trivial (held_cons trivial held_nil))))) ?_
            refine wpD_take (v := (Value.pointer (some ((Addr.mk b84 0 none).add 12)))) 9 (fun _ => True) rfl (by kernel_rfl) (by kernel_rfl) (by kernel_rfl) rfl rfl rfl trivial (fun w _ => (x_fieldAddr rfl e8 FA_24_12)) ?_
            refine wpD_all (rs := [10]) (by kernel_rfl) (by simp) (allD_cons ?_ allD_nil)
            obtain ⟨q112, h⟩ := h
            obtain ⟨w24, hw112⟩ : ∃ u, u = setAll w23 ((Addr.mk b84 0 none).add 12) [(Sl.v r111)] 0 := ⟨_, rfl⟩
            replace h := h w24 hw112
            refine stepD_skpL (L' := []) (w' := w24) rfl rfl rfl ((x_store (v := (Sl.v r111)) rfl rfl rfl SZ_22 (ones (by rfl)) q112).trans (by rw [hw112]; rfl)) (by kernel_rfl) held_nil ?_
            exact wpD_done (by kernel_rfl) ⟨(), ⟨e2, e3, e4, e8, e9, trivial⟩, h⟩
          clear h
          rintro l113 ρ w25 ⟨e2, e3, e4, e8, e9, -⟩ h
          replace h := hk l113 w25 h
          clear hk
          exact ⟨(), ⟨e2, e3, e4, e8, e9, trivial⟩, h⟩
        · replace h := h.2 hc103
          refine wpC_skip ?_
          exact ⟨(), ⟨e2, e3, e4, e8, e9, trivial⟩, h⟩
      clear h
      rintro l94 ρ w17 ⟨e2, e3, e4, e8, e9, -⟩ h
      replace h := hk l94 w17 h
      clear hk
      refine wpC_region ?_
      refine wpR_val (v := (Value.int .i64 l90)) (w' := w17) rfl rfl rfl (x_move (v := (Value.int .i64 l90)) rfl e9) ?_
      refine wpR_val (v := (Value.int .i64 (IntKind.i64.wrap (l90 + 1)))) (w' := w17) rfl rfl rfl (x_add rfl rfl rfl) ?_
      refine wpR_val (v := (Value.int .i64 (IntKind.i64.wrap (l90 + 1)))) (w' := w17) rfl rfl rfl (x_assign (v := (Value.int .i64 (IntKind.i64.wrap (l90 + 1)))) rfl rfl) ?_
      refine wpR_nil ?_
      exact ⟨IntKind.i64.wrap (l90 + 1), ⟨rfl, e2, e3, e4, e8, trivial⟩, h⟩
    · replace h := h.2 hc92
      refine wpC_exit ?_
      refine wpC_seq ?_
      refine wpC_cut (fun ρ => ρ 2 = (Value.pointer (some (Addr.mk b1 0 none))) ∧ ρ 3 = (Value.pointer (some (Addr.mk b2 0 none))) ∧ ρ 4 = (Value.pointer (some (Addr.mk b3 0 none))) ∧ ρ 8 = (Value.pointer (some (Addr.mk b84 0 none))) ∧ True) ⟨e2, e3, e4, e8, trivial⟩ ?_
      rintro ρ ⟨e2, e3, e4, e8, -⟩
      refine wpC_region ?_
      refine wpR_val (v := (Value.pointer (some ((Addr.mk b84 0 none).add 2)))) (w' := w16) rfl rfl rfl (x_fieldAddr rfl e8 FA_24_2) ?_
      obtain ⟨q114, h⟩ := h
      obtain ⟨w26, hw114⟩ : ∃ u, u = setAll w16 ((Addr.mk b84 0 none).add 2) [(Value.int .i64 0)] 0 := ⟨_, rfl⟩
      replace h := h w26 hw114
      refine wpR_skp (w' := w26) rfl rfl ((x_store (v := (Value.int .i64 0)) rfl rfl rfl SZ_3 (ones (by rfl)) q114).trans (by rw [hw114]; rfl)) ?_
      refine wpR_nil ?_
      obtain ⟨J115, h, hk⟩ := h
      refine wpC_seqJ (fun (x : Unit) ρ => ρ 2 = (Value.pointer (some (Addr.mk b1 0 none))) ∧ ρ 3 = (Value.pointer (some (Addr.mk b2 0 none))) ∧ ρ 4 = (Value.pointer (some (Addr.mk b3 0 none))) ∧ ρ 8 = (Value.pointer (some (Addr.mk b84 0 none))) ∧ True) J115 ?_ ?_
      · clear hk
        refine wpC_seq ?_
        refine wpC_cut (fun ρ => ρ 2 = (Value.pointer (some (Addr.mk b1 0 none))) ∧ ρ 3 = (Value.pointer (some (Addr.mk b2 0 none))) ∧ ρ 4 = (Value.pointer (some (Addr.mk b3 0 none))) ∧ ρ 8 = (Value.pointer (some (Addr.mk b84 0 none))) ∧ True) ⟨e2, e3, e4, e8, trivial⟩ ?_
        rintro ρ ⟨e2, e3, e4, e8, -⟩
        refine wpC_region ?_
        refine wpR_val (v := (Value.pointer (some ((Addr.mk b1 0 none).add 1)))) (w' := w26) rfl rfl rfl (x_fieldAddr rfl e2 FA_24_1) ?_
        obtain ⟨x117, q117, h⟩ := h
        refine wpR_val (v := (Value.int .i64 x117)) (w' := w26) rfl rfl rfl (x_load1 rfl rfl SH_3 q117) ?_
        refine wpR_val (v := (Value.bool (decide (x117 = 2)))) (w' := w26) rfl rfl rfl (x_eql rfl rfl rfl) ?_
        refine wpR_val (v := (Value.bool (decide (x117 = 2)))) (w' := w26) rfl rfl rfl (x_move (v := (Value.bool (decide (x117 = 2)))) rfl rfl) ?_
        obtain ⟨J118, h, hk⟩ := h
        refine wpR_joinJ 4 (fun x ρ => ρ 74 = Value.bool x ∧ ρ 2 = (Value.pointer (some (Addr.mk b1 0 none))) ∧ ρ 3 = (Value.pointer (some (Addr.mk b2 0 none))) ∧ ρ 4 = (Value.pointer (some (Addr.mk b3 0 none))) ∧ ρ 8 = (Value.pointer (some (Addr.mk b84 0 none))) ∧ True) (fun x w => J118 x ∧ w26 = w) ?_ ?_
        · clear hk
          rcases Bool.eq_false_or_eq_true (decide (x117 = 2)) with hc119 | hc119
          · replace h := h.1 hc119
            refine wpR_val (v := (Value.pointer (some ((Addr.mk b2 0 none).add 1)))) (w' := w26) (wantG rfl rfl rfl hc119) rfl rfl (x_fieldAddr rfl e3 FA_24_1) ?_
            obtain ⟨x120, q120, h⟩ := h
            refine wpR_val (v := (Value.int .i64 x120)) (w' := w26) (wantG rfl rfl rfl hc119) rfl rfl (x_load1 rfl rfl SH_3 q120) ?_
            refine wpR_val (v := (Value.bool (!decide (x120 = 2)))) (w' := w26) (wantG rfl rfl rfl hc119) rfl rfl (x_neq rfl rfl rfl) ?_
            refine wpR_val (v := (Value.bool (!decide (x120 = 2)))) (w' := w26) rfl rfl rfl (x_pickT (v := (Value.bool (!decide (x120 = 2)))) rfl rfl hc119 rfl) ?_
            refine wpR_nil ?_
            exact ⟨!decide (x120 = 2), ⟨rfl, e2, e3, e4, e8, trivial⟩, h, rfl⟩
          · replace h := h.2 hc119
            refine wpR_pass (wantN rfl rfl rfl hc119) rfl rfl ?_
            refine wpR_pass (wantN rfl rfl rfl hc119) rfl rfl ?_
            refine wpR_pass (wantN rfl rfl rfl hc119) rfl rfl ?_
            refine wpR_val (v := (Value.bool false)) (w' := w26) rfl rfl rfl (x_pickF (v := (Value.bool false)) rfl rfl hc119 rfl) ?_
            refine wpR_nil ?_
            exact ⟨false, ⟨rfl, e2, e3, e4, e8, trivial⟩, h, rfl⟩
        clear h
        rintro c121 ρ wj ⟨e74, e2, e3, e4, e8, -⟩ ⟨h, rfl⟩
        replace h := hk c121 h
        clear hk
        refine wpR_nil ?_
        refine wpC_cond (b := c121) e74 (fun hc122 => ?_) (fun hc122 => ?_)
        · replace h := h.1 hc122
          refine wpC_region ?_
          refine wpR_val (v := (Value.pointer (some ((Addr.mk b1 0 none).add 2)))) (w' := w26) rfl rfl rfl (x_fieldAddr rfl e2 FA_24_2) ?_
          obtain ⟨x123, q123, h⟩ := h
          refine wpR_val (v := (Value.int .i64 x123)) (w' := w26) rfl rfl rfl (x_load1 rfl rfl SH_3 q123) ?_
          refine wpR_val (v := (Value.pointer (some ((Addr.mk b84 0 none).add 2)))) (w' := w26) rfl rfl rfl (x_fieldAddr rfl e8 FA_24_2) ?_
          obtain ⟨q124, h⟩ := h
          obtain ⟨w28, hw124⟩ : ∃ u, u = setAll w26 ((Addr.mk b84 0 none).add 2) [(Value.int .i64 x123)] 0 := ⟨_, rfl⟩
          replace h := h w28 hw124
          refine wpR_skp (w' := w28) rfl rfl ((x_store (v := (Value.int .i64 x123)) rfl rfl rfl SZ_3 (ones (by rfl)) q124).trans (by rw [hw124]; rfl)) ?_
          refine wpR_nil ?_
          exact ⟨(), ⟨e2, e3, e4, e8, trivial⟩, h⟩
        · replace h := h.2 hc122
          refine wpC_skip ?_
          exact ⟨(), ⟨e2, e3, e4, e8, trivial⟩, h⟩
      clear h
      rintro l116 ρ w27 ⟨e2, e3, e4, e8, -⟩ h
      replace h := hk l116 w27 h
      clear hk
      obtain ⟨J125, h, hk⟩ := h
      refine wpC_seqJ (fun (x : Unit) ρ => ρ 2 = (Value.pointer (some (Addr.mk b1 0 none))) ∧ ρ 3 = (Value.pointer (some (Addr.mk b2 0 none))) ∧ ρ 4 = (Value.pointer (some (Addr.mk b3 0 none))) ∧ ρ 8 = (Value.pointer (some (Addr.mk b84 0 none))) ∧ True) J125 ?_ ?_
      · clear hk
        refine wpC_seq ?_
        refine wpC_region ?_
        refine wpR_val (v := (Value.pointer (some ((Addr.mk b1 0 none).add 1)))) (w' := w27) rfl rfl rfl (x_fieldAddr rfl e2 FA_24_1) ?_
        obtain ⟨x127, q127, h⟩ := h
        refine wpR_val (v := (Value.int .i64 x127)) (w' := w27) rfl rfl rfl (x_load1 rfl rfl SH_3 q127) ?_
        refine wpR_val (v := (Value.bool (!decide (x127 = 2)))) (w' := w27) rfl rfl rfl (x_neq rfl rfl rfl) ?_
        refine wpR_val (v := (Value.bool (!decide (x127 = 2)))) (w' := w27) rfl rfl rfl (x_move (v := (Value.bool (!decide (x127 = 2)))) rfl rfl) ?_
        obtain ⟨J128, h, hk⟩ := h
        refine wpR_joinJ 4 (fun x ρ => ρ 85 = Value.bool x ∧ ρ 2 = (Value.pointer (some (Addr.mk b1 0 none))) ∧ ρ 3 = (Value.pointer (some (Addr.mk b2 0 none))) ∧ ρ 4 = (Value.pointer (some (Addr.mk b3 0 none))) ∧ ρ 8 = (Value.pointer (some (Addr.mk b84 0 none))) ∧ True) (fun x w => J128 x ∧ w27 = w) ?_ ?_
        · clear hk
          rcases Bool.eq_false_or_eq_true (!decide (x127 = 2)) with hc129 | hc129
          · replace h := h.1 hc129
            refine wpR_val (v := (Value.pointer (some ((Addr.mk b2 0 none).add 1)))) (w' := w27) (wantG rfl rfl rfl hc129) rfl rfl (x_fieldAddr rfl e3 FA_24_1) ?_
            obtain ⟨x130, q130, h⟩ := h
            refine wpR_val (v := (Value.int .i64 x130)) (w' := w27) (wantG rfl rfl rfl hc129) rfl rfl (x_load1 rfl rfl SH_3 q130) ?_
            refine wpR_val (v := (Value.bool (decide (x130 = 2)))) (w' := w27) (wantG rfl rfl rfl hc129) rfl rfl (x_eql rfl rfl rfl) ?_
            refine wpR_val (v := (Value.bool (decide (x130 = 2)))) (w' := w27) rfl rfl rfl (x_pickT (v := (Value.bool (decide (x130 = 2)))) rfl rfl hc129 rfl) ?_
            refine wpR_nil ?_
            exact ⟨decide (x130 = 2), ⟨rfl, e2, e3, e4, e8, trivial⟩, h, rfl⟩
          · replace h := h.2 hc129
            refine wpR_pass (wantN rfl rfl rfl hc129) rfl rfl ?_
            refine wpR_pass (wantN rfl rfl rfl hc129) rfl rfl ?_
            refine wpR_pass (wantN rfl rfl rfl hc129) rfl rfl ?_
            refine wpR_val (v := (Value.bool false)) (w' := w27) rfl rfl rfl (x_pickF (v := (Value.bool false)) rfl rfl hc129 rfl) ?_
            refine wpR_nil ?_
            exact ⟨false, ⟨rfl, e2, e3, e4, e8, trivial⟩, h, rfl⟩
        clear h
        rintro c131 ρ wj ⟨e85, e2, e3, e4, e8, -⟩ ⟨h, rfl⟩
        replace h := hk c131 h
        clear hk
        refine wpR_nil ?_
        refine wpC_cond (b := c131) e85 (fun hc132 => ?_) (fun hc132 => ?_)
        · replace h := h.1 hc132
          refine wpC_region ?_
          refine wpR_val (v := (Value.pointer (some ((Addr.mk b2 0 none).add 2)))) (w' := w27) rfl rfl rfl (x_fieldAddr rfl e3 FA_24_2) ?_
          obtain ⟨x133, q133, h⟩ := h
          refine wpR_val (v := (Value.int .i64 x133)) (w' := w27) rfl rfl rfl (x_load1 rfl rfl SH_3 q133) ?_
          refine wpR_val (v := (Value.pointer (some ((Addr.mk b84 0 none).add 2)))) (w' := w27) rfl rfl rfl (x_fieldAddr rfl e8 FA_24_2) ?_
          obtain ⟨q134, h⟩ := h
          obtain ⟨w30, hw134⟩ : ∃ u, u = setAll w27 ((Addr.mk b84 0 none).add 2) [(Value.int .i64 x133)] 0 := ⟨_, rfl⟩
          replace h := h w30 hw134
          refine wpR_skp (w' := w30) rfl rfl ((x_store (v := (Value.int .i64 x133)) rfl rfl rfl SZ_3 (ones (by rfl)) q134).trans (by rw [hw134]; rfl)) ?_
          refine wpR_nil ?_
          exact ⟨(), ⟨e2, e3, e4, e8, trivial⟩, h⟩
        · replace h := h.2 hc132
          refine wpC_skip ?_
          exact ⟨(), ⟨e2, e3, e4, e8, trivial⟩, h⟩
      clear h
      rintro l126 ρ w29 ⟨e2, e3, e4, e8, -⟩ h
      replace h := hk l126 w29 h
      clear hk
      obtain ⟨J135, h, hk⟩ := h
      refine wpC_seqJ (fun (x : Unit) ρ => ρ 4 = (Value.pointer (some (Addr.mk b3 0 none))) ∧ ρ 8 = (Value.pointer (some (Addr.mk b84 0 none))) ∧ True) J135 ?_ ?_
      · clear hk
        refine wpC_seq ?_
        refine wpC_region ?_
        refine wpR_val (v := (Value.pointer (some ((Addr.mk b1 0 none).add 1)))) (w' := w29) rfl rfl rfl (x_fieldAddr rfl e2 FA_24_1) ?_
        obtain ⟨x137, q137, h⟩ := h
        refine wpR_val (v := (Value.int .i64 x137)) (w' := w29) rfl rfl rfl (x_load1 rfl rfl SH_3 q137) ?_
        refine wpR_val (v := (Value.bool (decide (x137 = 2)))) (w' := w29) rfl rfl rfl (x_eql rfl rfl rfl) ?_
        refine wpR_val (v := (Value.bool (decide (x137 = 2)))) (w' := w29) rfl rfl rfl (x_move (v := (Value.bool (decide (x137 = 2)))) rfl rfl) ?_
        obtain ⟨J138, h, hk⟩ := h
        refine wpR_joinJ 4 (fun x ρ => ρ 96 = Value.bool x ∧ ρ 2 = (Value.pointer (some (Addr.mk b1 0 none))) ∧ ρ 3 = (Value.pointer (some (Addr.mk b2 0 none))) ∧ ρ 4 = (Value.pointer (some (Addr.mk b3 0 none))) ∧ ρ 8 = (Value.pointer (some (Addr.mk b84 0 none))) ∧ True) (fun x w => J138 x ∧ w29 = w) ?_ ?_
        · clear hk
          rcases Bool.eq_false_or_eq_true (decide (x137 = 2)) with hc139 | hc139
          · replace h := h.1 hc139
            refine wpR_val (v := (Value.pointer (some ((Addr.mk b2 0 none).add 1)))) (w' := w29) (wantG rfl rfl rfl hc139) rfl rfl (x_fieldAddr rfl e3 FA_24_1) ?_
            obtain ⟨x140, q140, h⟩ := h
            refine wpR_val (v := (Value.int .i64 x140)) (w' := w29) (wantG rfl rfl rfl hc139) rfl rfl (x_load1 rfl rfl SH_3 q140) ?_
            refine wpR_val (v := (Value.bool (decide (x140 = 2)))) (w' := w29) (wantG rfl rfl rfl hc139) rfl rfl (x_eql rfl rfl rfl) ?_
            refine wpR_val (v := (Value.bool (decide (x140 = 2)))) (w' := w29) rfl rfl rfl (x_pickT (v := (Value.bool (decide (x140 = 2)))) rfl rfl hc139 rfl) ?_
            refine wpR_nil ?_
            exact ⟨decide (x140 = 2), ⟨rfl, e2, e3, e4, e8, trivial⟩, h, rfl⟩
          · replace h := h.2 hc139
            refine wpR_pass (wantN rfl rfl rfl hc139) rfl rfl ?_
            refine wpR_pass (wantN rfl rfl rfl hc139) rfl rfl ?_
            refine wpR_pass (wantN rfl rfl rfl hc139) rfl rfl ?_
            refine wpR_val (v := (Value.bool false)) (w' := w29) rfl rfl rfl (x_pickF (v := (Value.bool false)) rfl rfl hc139 rfl) ?_
            refine wpR_nil ?_
            exact ⟨false, ⟨rfl, e2, e3, e4, e8, trivial⟩, h, rfl⟩
        clear h
        rintro c141 ρ wj ⟨e96, e2, e3, e4, e8, -⟩ ⟨h, rfl⟩
        replace h := hk c141 h
        clear hk
        refine wpR_val (v := (Value.bool c141)) (w' := w29) rfl rfl rfl (x_move (v := (Value.bool c141)) rfl e96) ?_
        obtain ⟨J142, h, hk⟩ := h
        refine wpR_joinJ 4 (fun x ρ => ρ 101 = Value.bool x ∧ ρ 2 = (Value.pointer (some (Addr.mk b1 0 none))) ∧ ρ 3 = (Value.pointer (some (Addr.mk b2 0 none))) ∧ ρ 4 = (Value.pointer (some (Addr.mk b3 0 none))) ∧ ρ 8 = (Value.pointer (some (Addr.mk b84 0 none))) ∧ True) (fun x w => J142 x ∧ w29 = w) ?_ ?_
        · clear hk
          rcases Bool.eq_false_or_eq_true (c141) with hc143 | hc143
          · replace h := h.1 hc143
            refine wpR_val (v := (Value.pointer (some ((Addr.mk b1 0 none).add 2)))) (w' := w29) (wantG rfl rfl rfl hc143) rfl rfl (x_fieldAddr rfl e2 FA_24_2) ?_
            obtain ⟨x144, q144, h⟩ := h
            refine wpR_val (v := (Value.int .i64 x144)) (w' := w29) (wantG rfl rfl rfl hc143) rfl rfl (x_load1 rfl rfl SH_3 q144) ?_
            refine wpR_val (v := (Value.bool (!decide (x144 = 0)))) (w' := w29) (wantG rfl rfl rfl hc143) rfl rfl (x_neq rfl rfl rfl) ?_
            refine wpR_val (v := (Value.bool (!decide (x144 = 0)))) (w' := w29) rfl rfl rfl (x_pickT (v := (Value.bool (!decide (x144 = 0)))) rfl rfl hc143 rfl) ?_
            refine wpR_nil ?_
            exact ⟨!decide (x144 = 0), ⟨rfl, e2, e3, e4, e8, trivial⟩, h, rfl⟩
          · replace h := h.2 hc143
            refine wpR_pass (wantN rfl rfl rfl hc143) rfl rfl ?_
            refine wpR_pass (wantN rfl rfl rfl hc143) rfl rfl ?_
            refine wpR_pass (wantN rfl rfl rfl hc143) rfl rfl ?_
            refine wpR_val (v := (Value.bool false)) (w' := w29) rfl rfl rfl (x_pickF (v := (Value.bool false)) rfl rfl hc143 rfl) ?_
            refine wpR_nil ?_
            exact ⟨false, ⟨rfl, e2, e3, e4, e8, trivial⟩, h, rfl⟩
        clear h
        rintro c145 ρ wj ⟨e101, e2, e3, e4, e8, -⟩ ⟨h, rfl⟩
        replace h := hk c145 h
        clear hk
        refine wpR_val (v := (Value.bool c145)) (w' := w29) rfl rfl rfl (x_move (v := (Value.bool c145)) rfl e101) ?_
        obtain ⟨J146, h, hk⟩ := h
        refine wpR_joinJ 4 (fun x ρ => ρ 106 = Value.bool x ∧ ρ 2 = (Value.pointer (some (Addr.mk b1 0 none))) ∧ ρ 3 = (Value.pointer (some (Addr.mk b2 0 none))) ∧ ρ 4 = (Value.pointer (some (Addr.mk b3 0 none))) ∧ ρ 8 = (Value.pointer (some (Addr.mk b84 0 none))) ∧ True) (fun x w => J146 x ∧ w29 = w) ?_ ?_
        · clear hk
          rcases Bool.eq_false_or_eq_true (c145) with hc147 | hc147
          · replace h := h.1 hc147
            refine wpR_val (v := (Value.pointer (some ((Addr.mk b2 0 none).add 2)))) (w' := w29) (wantG rfl rfl rfl hc147) rfl rfl (x_fieldAddr rfl e3 FA_24_2) ?_
            obtain ⟨x148, q148, h⟩ := h
            refine wpR_val (v := (Value.int .i64 x148)) (w' := w29) (wantG rfl rfl rfl hc147) rfl rfl (x_load1 rfl rfl SH_3 q148) ?_
            refine wpR_val (v := (Value.bool (!decide (x148 = 0)))) (w' := w29) (wantG rfl rfl rfl hc147) rfl rfl (x_neq rfl rfl rfl) ?_
            refine wpR_val (v := (Value.bool (!decide (x148 = 0)))) (w' := w29) rfl rfl rfl (x_pickT (v := (Value.bool (!decide (x148 = 0)))) rfl rfl hc147 rfl) ?_
            refine wpR_nil ?_
            exact ⟨!decide (x148 = 0), ⟨rfl, e2, e3, e4, e8, trivial⟩, h, rfl⟩
          · replace h := h.2 hc147
            refine wpR_pass (wantN rfl rfl rfl hc147) rfl rfl ?_
            refine wpR_pass (wantN rfl rfl rfl hc147) rfl rfl ?_
            refine wpR_pass (wantN rfl rfl rfl hc147) rfl rfl ?_
            refine wpR_val (v := (Value.bool false)) (w' := w29) rfl rfl rfl (x_pickF (v := (Value.bool false)) rfl rfl hc147 rfl) ?_
            refine wpR_nil ?_
            exact ⟨false, ⟨rfl, e2, e3, e4, e8, trivial⟩, h, rfl⟩
        clear h
        rintro c149 ρ wj ⟨e106, e2, e3, e4, e8, -⟩ ⟨h, rfl⟩
        replace h := hk c149 h
        clear hk
        refine wpR_nil ?_
        refine wpC_cond (b := c149) e106 (fun hc150 => ?_) (fun hc150 => ?_)
        · replace h := h.1 hc150
          refine wpC_region ?_
          refine wpR_val (v := (Value.pointer (some ((Addr.mk b1 0 none).add 2)))) (w' := w29) rfl rfl rfl (x_fieldAddr rfl e2 FA_24_2) ?_
          obtain ⟨x151, q151, h⟩ := h
          refine wpR_val (v := (Value.int .i64 x151)) (w' := w29) rfl rfl rfl (x_load1 rfl rfl SH_3 q151) ?_
          refine wpR_val (v := (Value.pointer (some ((Addr.mk b2 0 none).add 2)))) (w' := w29) rfl rfl rfl (x_fieldAddr rfl e3 FA_24_2) ?_
          obtain ⟨x152, q152, h⟩ := h
          refine wpR_val (v := (Value.int .i64 x152)) (w' := w29) rfl rfl rfl (x_load1 rfl rfl SH_3 q152) ?_
          refine wpR_val (v := (Value.int .i64 (max x151 x152))) (w' := w29) rfl rfl rfl (x_max rfl rfl rfl) ?_
          refine wpR_val (v := (Value.pointer (some ((Addr.mk b84 0 none).add 2)))) (w' := w29) rfl rfl rfl (x_fieldAddr rfl e8 FA_24_2) ?_
          obtain ⟨q153, h⟩ := h
          obtain ⟨w32, hw153⟩ : ∃ u, u = setAll w29 ((Addr.mk b84 0 none).add 2) [(Value.int .i64 (max x151 x152))] 0 := ⟨_, rfl⟩
          replace h := h w32 hw153
          refine wpR_skp (w' := w32) rfl rfl ((x_store (v := (Value.int .i64 (max x151 x152))) rfl rfl rfl SZ_3 (ones (by rfl)) q153).trans (by rw [hw153]; rfl)) ?_
          refine wpR_nil ?_
          exact ⟨(), ⟨e4, e8, trivial⟩, h⟩
        · replace h := h.2 hc150
          refine wpC_skip ?_
          exact ⟨(), ⟨e4, e8, trivial⟩, h⟩
      clear h
      rintro l136 ρ w31 ⟨e4, e8, -⟩ h
      replace h := hk l136 w31 h
      clear hk
      refine wpC_seq ?_
      refine wpC_region ?_
      obtain ⟨x154, q154, x155, q155, x156, q156, x157, q157, x158, q158, x159, q159, x160, q160, x161, q161, x162, q162, x163, q163, x164, q164, x165, q165, x166, q166, x167, q167, x168, q168, x169, q169, x170, q170, x171, q171, x172, q172, x173, q173, x174, q174, x175, q175, h⟩ := h
      refine wpR_val (v := (V23 x154 x155 x156 x157 x158 x159 x160 x161 x162 x163 x164 x165 x166 x167 x168 x169 x170 x171 x172 x173 x174 x175)) (w' := w31) rfl rfl rfl (x_loadN (S23 x154 x155 x156 x157 x158 x159 x160 x161 x162 x163 x164 x165 x166 x167 x168 x169 x170 x171 x172 x173 x174 x175) rfl e8 SH_24 (K23 ⟨q154, q155, q156, q157, q158, q159, q160, q161, q162, q163, q164, q165, q166, q167, q168, q169, q170, q171, q172, q173, q174, q175⟩)) ?_
      obtain ⟨q176, h⟩ := h
      obtain ⟨w33, hw176⟩ : ∃ u, u = setAll w31 (Addr.mk b3 0 none) (S23 x154 x155 x156 x157 x158 x159 x160 x161 x162 x163 x164 x165 x166 x167 x168 x169 x170 x171 x172 x173 x174 x175) 0 := ⟨_, rfl⟩
      replace h := h w33 hw176
      refine wpR_skp (w' := w33) rfl rfl ((x_store (v := (V23 x154 x155 x156 x157 x158 x159 x160 x161 x162 x163 x164 x165 x166 x167 x168 x169 x170 x171 x172 x173 x174 x175)) rfl e4 rfl SZ_24 (ones (by rfl)) q176).trans (by rw [hw176]; rfl)) ?_
      refine wpR_nil ?_
      refine wpC_ret ?_
      obtain ⟨x177, q177, x178, q178, x179, q179, x180, q180, x181, q181, x182, q182, x183, q183, x184, q184, x185, q185, x186, q186, x187, q187, x188, q188, x189, q189, x190, q190, x191, q191, x192, q192, x193, q193, x194, q194, x195, q195, x196, q196, x197, q197, x198, q198, h⟩ := h
      exact ⟨.inl rfl, fun a ha => ⟨_, results_repC (S23 x177 x178 x179 x180 x181 x182 x183 x184 x185 x186 x187 x188 x189 x190 x191 x192 x193 x194 x195 x196 x197 x198) rfl ha e4 SH_24 (K23 ⟨q177, q178, q179, q180, q181, q182, q183, q184, q185, q186, q187, q188, q189, q190, q191, q192, q193, q194, q195, q196, q197, q198⟩), (x177, x178, x179, x180, x181, x182, x183, x184, x185, x186, x187, x188, x189, x190, x191, x192, x193, x194, x195, x196, x197, x198), rfl, h⟩⟩

/-- lingualaw13.fine -/
def F19 (p0_0 : ByteArray) (p0_1 : Int) (p0_2 : Int) (p0_3 : Int) (p0_4 : Bool) (p0_5 : Int) (p0_6 : Bool) (p0_7 : Bool) (p0_8 : Int) (p0_9 : Int) (p0_10 : Int) (p0_11 : Int) (p0_12 : Sl) (p0_13 : Int) (p0_14 : Int) (p0_15 : Int) (p0_16 : Int) (p0_17 : Bool) (p0_18 : Int) (p0_19 : Int) (p0_20 : Int) (p0_21 : Int) (p1_0 : ByteArray) (p1_1 : Int) (p1_2 : Int) (p1_3 : Int) (p1_4 : Bool) (p1_5 : Int) (p1_6 : Bool) (p1_7 : Bool) (p1_8 : Int) (p1_9 : Int) (p1_10 : Int) (p1_11 : Int) (p1_12 : Sl) (p1_13 : Int) (p1_14 : Int) (p1_15 : Int) (p1_16 : Int) (p1_17 : Bool) (p1_18 : Int) (p1_19 : Int) (p1_20 : Int) (p1_21 : Int) (p2_0 : ByteArray) (p2_1 : Int) (p2_2 : Int) (p2_3 : Int) (p2_4 : Bool) (p2_5 : Int) (p2_6 : Bool) (p2_7 : Bool) (p2_8 : Int) (p2_9 : Int) (p2_10 : Int) (p2_11 : Int) (p2_12 : Sl) (p2_13 : Int) (p2_14 : Int) (p2_15 : Int) (p2_16 : Int) (p2_17 : Bool) (p2_18 : Int) (p2_19 : Int) (p2_20 : Int) (p2_21 : Int) (w0 : World) (K : Bool → World → Prop) : Prop :=
  nw 24 (A23 p0_0 p0_1 p0_2 p0_3 p0_4 p0_5 p0_6 p0_7 p0_8 p0_9 p0_10 p0_11 p0_12 p0_13 p0_14 p0_15 p0_16 p0_17 p0_18 p0_19 p0_20 p0_21) w0 fun b1 w1 =>
  nw 24 (A23 p1_0 p1_1 p1_2 p1_3 p1_4 p1_5 p1_6 p1_7 p1_8 p1_9 p1_10 p1_11 p1_12 p1_13 p1_14 p1_15 p1_16 p1_17 p1_18 p1_19 p1_20 p1_21) w1 fun b2 w2 =>
  nw 24 (A23 p2_0 p2_1 p2_2 p2_3 p2_4 p2_5 p2_6 p2_7 p2_8 p2_9 p2_10 p2_11 p2_12 p2_13 p2_14 p2_15 p2_16 p2_17 p2_18 p2_19 p2_20 p2_21) w2 fun b3 w3 =>
  L23 (Addr.mk b1 0 none) w3 fun x4 x5 x6 x7 x8 x9 x10 x11 x12 x13 x14 x15 x16 x17 x18 x19 x20 x21 x22 x23 x24 x25 =>
  callC Try.prog 10 #[(V23 x4 x5 x6 x7 x8 x9 x10 x11 x12 x13 x14 x15 x16 x17 x18 x19 x20 x21 x22 x23 x24 x25)] (fun (r : Int) => (Value.int .i64 r)) w3 fun r26 w4 =>
  jn (fun J27 => cnd (decide (r26 = 0))
    (
    L23 (Addr.mk b2 0 none) w4 fun x29 x30 x31 x32 x33 x34 x35 x36 x37 x38 x39 x40 x41 x42 x43 x44 x45 x46 x47 x48 x49 x50 =>
    callC Try.prog 10 #[(V23 x29 x30 x31 x32 x33 x34 x35 x36 x37 x38 x39 x40 x41 x42 x43 x44 x45 x46 x47 x48 x49 x50)] (fun (r : Int) => (Value.int .i64 r)) w4 fun r51 w5 =>
    J27 (decide (r51 = 0)) w5
    )
    (
    J27 false w4
    ))
  fun c52 w6 =>
  jn (fun J53 => cnd (c52)
    (
    L23 (Addr.mk b3 0 none) w6 fun x55 x56 x57 x58 x59 x60 x61 x62 x63 x64 x65 x66 x67 x68 x69 x70 x71 x72 x73 x74 x75 x76 =>
    callC Try.prog 10 #[(V23 x55 x56 x57 x58 x59 x60 x61 x62 x63 x64 x65 x66 x67 x68 x69 x70 x71 x72 x73 x74 x75 x76)] (fun (r : Int) => (Value.int .i64 r)) w6 fun r77 w7 =>
    J53 (decide (r77 = 0)) w7
    )
    (
    J53 false w6
    ))
  fun c78 w8 =>
  K c78 w8
set_option maxRecDepth 100000 in
theorem D19 (p0_0 : ByteArray) (p0_1 : Int) (p0_2 : Int) (p0_3 : Int) (p0_4 : Bool) (p0_5 : Int) (p0_6 : Bool) (p0_7 : Bool) (p0_8 : Int) (p0_9 : Int) (p0_10 : Int) (p0_11 : Int) (p0_12 : Sl) (p0_13 : Int) (p0_14 : Int) (p0_15 : Int) (p0_16 : Int) (p0_17 : Bool) (p0_18 : Int) (p0_19 : Int) (p0_20 : Int) (p0_21 : Int) (p1_0 : ByteArray) (p1_1 : Int) (p1_2 : Int) (p1_3 : Int) (p1_4 : Bool) (p1_5 : Int) (p1_6 : Bool) (p1_7 : Bool) (p1_8 : Int) (p1_9 : Int) (p1_10 : Int) (p1_11 : Int) (p1_12 : Sl) (p1_13 : Int) (p1_14 : Int) (p1_15 : Int) (p1_16 : Int) (p1_17 : Bool) (p1_18 : Int) (p1_19 : Int) (p1_20 : Int) (p1_21 : Int) (p2_0 : ByteArray) (p2_1 : Int) (p2_2 : Int) (p2_3 : Int) (p2_4 : Bool) (p2_5 : Int) (p2_6 : Bool) (p2_7 : Bool) (p2_8 : Int) (p2_9 : Int) (p2_10 : Int) (p2_11 : Int) (p2_12 : Sl) (p2_13 : Int) (p2_14 : Int) (p2_15 : Int) (p2_16 : Int) (p2_17 : Bool) (p2_18 : Int) (p2_19 : Int) (p2_20 : Int) (p2_21 : Int) (w0 : World) (K : Bool → World → Prop) (h : F19 p0_0 p0_1 p0_2 p0_3 p0_4 p0_5 p0_6 p0_7 p0_8 p0_9 p0_10 p0_11 p0_12 p0_13 p0_14 p0_15 p0_16 p0_17 p0_18 p0_19 p0_20 p0_21 p1_0 p1_1 p1_2 p1_3 p1_4 p1_5 p1_6 p1_7 p1_8 p1_9 p1_10 p1_11 p1_12 p1_13 p1_14 p1_15 p1_16 p1_17 p1_18 p1_19 p1_20 p1_21 p2_0 p2_1 p2_2 p2_3 p2_4 p2_5 p2_6 p2_7 p2_8 p2_9 p2_10 p2_11 p2_12 p2_13 p2_14 p2_15 p2_16 p2_17 p2_18 p2_19 p2_20 p2_21 w0 K) : callC Try.prog 19 #[(V23 p0_0 p0_1 p0_2 p0_3 p0_4 p0_5 p0_6 p0_7 p0_8 p0_9 p0_10 p0_11 p0_12 p0_13 p0_14 p0_15 p0_16 p0_17 p0_18 p0_19 p0_20 p0_21), (V23 p1_0 p1_1 p1_2 p1_3 p1_4 p1_5 p1_6 p1_7 p1_8 p1_9 p1_10 p1_11 p1_12 p1_13 p1_14 p1_15 p1_16 p1_17 p1_18 p1_19 p1_20 p1_21), (V23 p2_0 p2_1 p2_2 p2_3 p2_4 p2_5 p2_6 p2_7 p2_8 p2_9 p2_10 p2_11 p2_12 p2_13 p2_14 p2_15 p2_16 p2_17 p2_18 p2_19 p2_20 p2_21)] (fun (r : Bool) => (Value.bool r)) w0 K := by
  unfold F19 at h
  refine calls_of_wpC Try.func19 rfl 20 rfl (by simp) ?_
  intro ρ hρ
  have e0 : ρ 0 = (V23 p0_0 p0_1 p0_2 p0_3 p0_4 p0_5 p0_6 p0_7 p0_8 p0_9 p0_10 p0_11 p0_12 p0_13 p0_14 p0_15 p0_16 p0_17 p0_18 p0_19 p0_20 p0_21) := hρ 0
  have e1 : ρ 1 = (V23 p1_0 p1_1 p1_2 p1_3 p1_4 p1_5 p1_6 p1_7 p1_8 p1_9 p1_10 p1_11 p1_12 p1_13 p1_14 p1_15 p1_16 p1_17 p1_18 p1_19 p1_20 p1_21) := hρ 1
  have e2 : ρ 2 = (V23 p2_0 p2_1 p2_2 p2_3 p2_4 p2_5 p2_6 p2_7 p2_8 p2_9 p2_10 p2_11 p2_12 p2_13 p2_14 p2_15 p2_16 p2_17 p2_18 p2_19 p2_20 p2_21) := hρ 2
  clear hρ
  refine wpC_seq ?_
  refine wpC_region ?_
  obtain ⟨b1, hb1⟩ : ∃ u, u = w0.heap.size := ⟨_, rfl⟩
  obtain ⟨w1, hw1⟩ : ∃ u, u = w0.alloc (.cells (A23 p0_0 p0_1 p0_2 p0_3 p0_4 p0_5 p0_6 p0_7 p0_8 p0_9 p0_10 p0_11 p0_12 p0_13 p0_14 p0_15 p0_16 p0_17 p0_18 p0_19 p0_20 p0_21) 24) := ⟨_, rfl⟩
  replace h := h b1 w1 hb1 hw1
  refine wpR_val (v := (Value.pointer (some (Addr.mk b1 0 none)))) (w' := w1) rfl rfl rfl ((x_box (v := (V23 p0_0 p0_1 p0_2 p0_3 p0_4 p0_5 p0_6 p0_7 p0_8 p0_9 p0_10 p0_11 p0_12 p0_13 p0_14 p0_15 p0_16 p0_17 p0_18 p0_19 p0_20 p0_21)) rfl e0).trans (by rw [hb1, hw1]; rfl)) ?_
  obtain ⟨b2, hb2⟩ : ∃ u, u = w1.heap.size := ⟨_, rfl⟩
  obtain ⟨w2, hw2⟩ : ∃ u, u = w1.alloc (.cells (A23 p1_0 p1_1 p1_2 p1_3 p1_4 p1_5 p1_6 p1_7 p1_8 p1_9 p1_10 p1_11 p1_12 p1_13 p1_14 p1_15 p1_16 p1_17 p1_18 p1_19 p1_20 p1_21) 24) := ⟨_, rfl⟩
  replace h := h b2 w2 hb2 hw2
  refine wpR_val (v := (Value.pointer (some (Addr.mk b2 0 none)))) (w' := w2) rfl rfl rfl ((x_box (v := (V23 p1_0 p1_1 p1_2 p1_3 p1_4 p1_5 p1_6 p1_7 p1_8 p1_9 p1_10 p1_11 p1_12 p1_13 p1_14 p1_15 p1_16 p1_17 p1_18 p1_19 p1_20 p1_21)) rfl e1).trans (by rw [hb2, hw2]; rfl)) ?_
  obtain ⟨b3, hb3⟩ : ∃ u, u = w2.heap.size := ⟨_, rfl⟩
  obtain ⟨w3, hw3⟩ : ∃ u, u = w2.alloc (.cells (A23 p2_0 p2_1 p2_2 p2_3 p2_4 p2_5 p2_6 p2_7 p2_8 p2_9 p2_10 p2_11 p2_12 p2_13 p2_14 p2_15 p2_16 p2_17 p2_18 p2_19 p2_20 p2_21) 24) := ⟨_, rfl⟩
  replace h := h b3 w3 hb3 hw3
  refine wpR_val (v := (Value.pointer (some (Addr.mk b3 0 none)))) (w' := w3) rfl rfl rfl ((x_box (v := (V23 p2_0 p2_1 p2_2 p2_3 p2_4 p2_5 p2_6 p2_7 p2_8 p2_9 p2_10 p2_11 p2_12 p2_13 p2_14 p2_15 p2_16 p2_17 p2_18 p2_19 p2_20 p2_21)) rfl e2).trans (by rw [hb3, hw3]; rfl)) ?_
  refine wpR_val (v := (Value.bool false)) (w' := w3) rfl rfl rfl (x_assign (v := (Value.bool false)) rfl rfl) ?_
  refine wpR_nil ?_
  refine wpC_seq ?_
  refine wpC_cut (fun ρ => ρ 3 = (Value.pointer (some (Addr.mk b1 0 none))) ∧ ρ 4 = (Value.pointer (some (Addr.mk b2 0 none))) ∧ ρ 5 = (Value.pointer (some (Addr.mk b3 0 none))) ∧ True) ⟨rfl, rfl, rfl, trivial⟩ ?_
  rintro ρ ⟨e3, e4, e5, -⟩
  refine wpC_region ?_
  obtain ⟨x4, q4, x5, q5, x6, q6, x7, q7, x8, q8, x9, q9, x10, q10, x11, q11, x12, q12, x13, q13, x14, q14, x15, q15, x16, q16, x17, q17, x18, q18, x19, q19, x20, q20, x21, q21, x22, q22, x23, q23, x24, q24, x25, q25, h⟩ := h
  refine wpR_val (v := (V23 x4 x5 x6 x7 x8 x9 x10 x11 x12 x13 x14 x15 x16 x17 x18 x19 x20 x21 x22 x23 x24 x25)) (w' := w3) rfl rfl rfl (x_loadN (S23 x4 x5 x6 x7 x8 x9 x10 x11 x12 x13 x14 x15 x16 x17 x18 x19 x20 x21 x22 x23 x24 x25) rfl e3 SH_24 (K23 ⟨q4, q5, q6, q7, q8, q9, q10, q11, q12, q13, q14, q15, q16, q17, q18, q19, q20, q21, q22, q23, q24, q25⟩)) ?_
  refine wpR_enter rfl rfl rfl (x_call (vs := [(V23 x4 x5 x6 x7 x8 x9 x10 x11 x12 x13 x14 x15 x16 x17 x18 x19 x20 x21 x22 x23 x24 x25)]) rfl rfl (mapl_cons rfl mapl_nil) Try.func10 NN_10 NB_10) (Calls.mono h ?_)
  rintro _ w4 ⟨r26, rfl, h⟩
  refine ⟨_, rfl, ?_⟩
  refine wpR_val (v := (Value.bool (decide (r26 = 0)))) (w' := w4) rfl rfl rfl (x_eql rfl rfl rfl) ?_
  refine wpR_val (v := (Value.bool (decide (r26 = 0)))) (w' := w4) rfl rfl rfl (x_move (v := (Value.bool (decide (r26 = 0)))) rfl rfl) ?_
  obtain ⟨J27, h, hk⟩ := h
  refine wpR_joinJ 4 (fun x ρ => ρ 14 = Value.bool x ∧ ρ 5 = (Value.pointer (some (Addr.mk b3 0 none))) ∧ True) (J27) ?_ ?_
  · clear hk
    rcases Bool.eq_false_or_eq_true (decide (r26 = 0)) with hc28 | hc28
    · replace h := h.1 hc28
      obtain ⟨x29, q29, x30, q30, x31, q31, x32, q32, x33, q33, x34, q34, x35, q35, x36, q36, x37, q37, x38, q38, x39, q39, x40, q40, x41, q41, x42, q42, x43, q43, x44, q44, x45, q45, x46, q46, x47, q47, x48, q48, x49, q49, x50, q50, h⟩ := h
      refine wpR_val (v := (V23 x29 x30 x31 x32 x33 x34 x35 x36 x37 x38 x39 x40 x41 x42 x43 x44 x45 x46 x47 x48 x49 x50)) (w' := w4) (wantG rfl rfl rfl hc28) rfl rfl (x_loadN (S23 x29 x30 x31 x32 x33 x34 x35 x36 x37 x38 x39 x40 x41 x42 x43 x44 x45 x46 x47 x48 x49 x50) rfl e4 SH_24 (K23 ⟨q29, q30, q31, q32, q33, q34, q35, q36, q37, q38, q39, q40, q41, q42, q43, q44, q45, q46, q47, q48, q49, q50⟩)) ?_
      refine wpR_enter (wantG rfl rfl rfl hc28) rfl rfl (x_call (vs := [(V23 x29 x30 x31 x32 x33 x34 x35 x36 x37 x38 x39 x40 x41 x42 x43 x44 x45 x46 x47 x48 x49 x50)]) rfl rfl (mapl_cons rfl mapl_nil) Try.func10 NN_10 NB_10) (Calls.mono h ?_)
      rintro _ w5 ⟨r51, rfl, h⟩
      refine ⟨_, rfl, ?_⟩
      refine wpR_val (v := (Value.bool (decide (r51 = 0)))) (w' := w5) (wantG rfl rfl rfl hc28) rfl rfl (x_eql rfl rfl rfl) ?_
      refine wpR_val (v := (Value.bool (decide (r51 = 0)))) (w' := w5) rfl rfl rfl (x_pickT (v := (Value.bool (decide (r51 = 0)))) rfl rfl hc28 rfl) ?_
      refine wpR_nil ?_
      exact ⟨decide (r51 = 0), ⟨rfl, e5, trivial⟩, h⟩
    · replace h := h.2 hc28
      refine wpR_pass (wantN rfl rfl rfl hc28) rfl rfl ?_
      refine wpR_pass (wantN rfl rfl rfl hc28) rfl rfl ?_
      refine wpR_pass (wantN rfl rfl rfl hc28) rfl rfl ?_
      refine wpR_val (v := (Value.bool false)) (w' := w4) rfl rfl rfl (x_pickF (v := (Value.bool false)) rfl rfl hc28 rfl) ?_
      refine wpR_nil ?_
      exact ⟨false, ⟨rfl, e5, trivial⟩, h⟩
  clear h
  rintro c52 ρ w6 ⟨e14, e5, -⟩ h
  replace h := hk c52 w6 h
  clear hk
  refine wpR_val (v := (Value.bool c52)) (w' := w6) rfl rfl rfl (x_move (v := (Value.bool c52)) rfl e14) ?_
  obtain ⟨J53, h, hk⟩ := h
  refine wpR_joinJ 4 (fun x ρ => ρ 19 = Value.bool x ∧ True) (J53) ?_ ?_
  · clear hk
    rcases Bool.eq_false_or_eq_true (c52) with hc54 | hc54
    · replace h := h.1 hc54
      obtain ⟨x55, q55, x56, q56, x57, q57, x58, q58, x59, q59, x60, q60, x61, q61, x62, q62, x63, q63, x64, q64, x65, q65, x66, q66, x67, q67, x68, q68, x69, q69, x70, q70, x71, q71, x72, q72, x73, q73, x74, q74, x75, q75, x76, q76, h⟩ := h
      refine wpR_val (v := (V23 x55 x56 x57 x58 x59 x60 x61 x62 x63 x64 x65 x66 x67 x68 x69 x70 x71 x72 x73 x74 x75 x76)) (w' := w6) (wantG rfl rfl rfl hc54) rfl rfl (x_loadN (S23 x55 x56 x57 x58 x59 x60 x61 x62 x63 x64 x65 x66 x67 x68 x69 x70 x71 x72 x73 x74 x75 x76) rfl e5 SH_24 (K23 ⟨q55, q56, q57, q58, q59, q60, q61, q62, q63, q64, q65, q66, q67, q68, q69, q70, q71, q72, q73, q74, q75, q76⟩)) ?_
      refine wpR_enter (wantG rfl rfl rfl hc54) rfl rfl (x_call (vs := [(V23 x55 x56 x57 x58 x59 x60 x61 x62 x63 x64 x65 x66 x67 x68 x69 x70 x71 x72 x73 x74 x75 x76)]) rfl rfl (mapl_cons rfl mapl_nil) Try.func10 NN_10 NB_10) (Calls.mono h ?_)
      rintro _ w7 ⟨r77, rfl, h⟩
      refine ⟨_, rfl, ?_⟩
      refine wpR_val (v := (Value.bool (decide (r77 = 0)))) (w' := w7) (wantG rfl rfl rfl hc54) rfl rfl (x_eql rfl rfl rfl) ?_
      refine wpR_val (v := (Value.bool (decide (r77 = 0)))) (w' := w7) rfl rfl rfl (x_pickT (v := (Value.bool (decide (r77 = 0)))) rfl rfl hc54 rfl) ?_
      refine wpR_nil ?_
      exact ⟨decide (r77 = 0), ⟨rfl, trivial⟩, h⟩
    · replace h := h.2 hc54
      refine wpR_pass (wantN rfl rfl rfl hc54) rfl rfl ?_
      refine wpR_pass (wantN rfl rfl rfl hc54) rfl rfl ?_
      refine wpR_pass (wantN rfl rfl rfl hc54) rfl rfl ?_
      refine wpR_val (v := (Value.bool false)) (w' := w6) rfl rfl rfl (x_pickF (v := (Value.bool false)) rfl rfl hc54 rfl) ?_
      refine wpR_nil ?_
      exact ⟨false, ⟨rfl, trivial⟩, h⟩
  clear h
  rintro c78 ρ w8 ⟨e19, -⟩ h
  replace h := hk c78 w8 h
  clear hk
  refine wpR_val (v := (Value.bool c78)) (w' := w8) rfl rfl rfl (x_assign (v := (Value.bool c78)) rfl e19) ?_
  refine wpR_nil ?_
  refine wpC_ret ?_
  exact ⟨.inl rfl, fun a ha => ⟨_, results_rep1 rfl ha rfl, c78, rfl, h⟩⟩

/-- lingualaw13.alike -/
def F20 (p0_0 : ByteArray) (p0_1 : Int) (p0_2 : Int) (p0_3 : Int) (p0_4 : Bool) (p0_5 : Int) (p0_6 : Bool) (p0_7 : Bool) (p0_8 : Int) (p0_9 : Int) (p0_10 : Int) (p0_11 : Int) (p0_12 : Sl) (p0_13 : Int) (p0_14 : Int) (p0_15 : Int) (p0_16 : Int) (p0_17 : Bool) (p0_18 : Int) (p0_19 : Int) (p0_20 : Int) (p0_21 : Int) (p1_0 : ByteArray) (p1_1 : Int) (p1_2 : Int) (p1_3 : Int) (p1_4 : Bool) (p1_5 : Int) (p1_6 : Bool) (p1_7 : Bool) (p1_8 : Int) (p1_9 : Int) (p1_10 : Int) (p1_11 : Int) (p1_12 : Sl) (p1_13 : Int) (p1_14 : Int) (p1_15 : Int) (p1_16 : Int) (p1_17 : Bool) (p1_18 : Int) (p1_19 : Int) (p1_20 : Int) (p1_21 : Int) (w0 : World) (K : Bool → World → Prop) : Prop :=
  nw 24 (A23 p0_0 p0_1 p0_2 p0_3 p0_4 p0_5 p0_6 p0_7 p0_8 p0_9 p0_10 p0_11 p0_12 p0_13 p0_14 p0_15 p0_16 p0_17 p0_18 p0_19 p0_20 p0_21) w0 fun b1 w1 =>
  nw 24 (A23 p1_0 p1_1 p1_2 p1_3 p1_4 p1_5 p1_6 p1_7 p1_8 p1_9 p1_10 p1_11 p1_12 p1_13 p1_14 p1_15 p1_16 p1_17 p1_18 p1_19 p1_20 p1_21) w1 fun b2 w2 =>
  L23 (Addr.mk b1 0 none) w2 fun x3 x4 x5 x6 x7 x8 x9 x10 x11 x12 x13 x14 x15 x16 x17 x18 x19 x20 x21 x22 x23 x24 =>
  callC Try.prog 31 #[(V23 x3 x4 x5 x6 x7 x8 x9 x10 x11 x12 x13 x14 x15 x16 x17 x18 x19 x20 x21 x22 x23 x24)] (fun (r : Sl) => (Sl.v r)) w2 fun r25 w3 =>
  L23 (Addr.mk b2 0 none) w3 fun x26 x27 x28 x29 x30 x31 x32 x33 x34 x35 x36 x37 x38 x39 x40 x41 x42 x43 x44 x45 x46 x47 =>
  callC Try.prog 31 #[(V23 x26 x27 x28 x29 x30 x31 x32 x33 x34 x35 x36 x37 x38 x39 x40 x41 x42 x43 x44 x45 x46 x47)] (fun (r : Sl) => (Sl.v r)) w3 fun r48 w4 =>
  lp (fun (next49 : Int → World → Prop) l49 w5 =>
    cnd (decide (l49 < (r25.len : Int)))
      (
      jn (fun (J52 : Bool → World → Prop) => tk w5 fun w6 =>
        ix r25 l49 1 fun p53 =>
        ld (Value.int .i64) p53 w6 fun x54 =>
        ix r48 l49 1 fun p55 =>
        ld (Value.int .i64) p55 w6 fun x56 =>
        J52 (!decide (x54 = x56)) w6
      )
      fun l57 w7 =>
      cnd (l57)
        (
        K false w7
        )
        (
        next49 (IntKind.i64.wrap (l49 + 1)) w7
        )
      )
      (
      lp (fun (next59 : Int → World → Prop) l59 w8 =>
        ld Sl.v ((Addr.mk b1 0 none).add 12) w8 fun x60 =>
        cnd (decide (l59 < (x60.len : Int)))
          (
          jn (fun (J63 : Bool → World → Prop) => tk w8 fun w9 =>
            ld Sl.v ((Addr.mk b2 0 none).add 12) w9 fun x64 =>
            ld Sl.v ((Addr.mk b1 0 none).add 12) w9 fun x65 =>
            ix x65 l59 1 fun p66 =>
            ld Value.string p66 w9 fun x67 =>
            callC Try.prog 32 #[(Sl.v x64), (Value.string x67)] (fun (r : Bool) => (Value.bool r)) w9 fun r68 w10 =>
            (w10.cell? ((Addr.mk b1 0 none).add 12) = some (Sl.v x65)) ∧
            J63 (!r68) w10
          )
          fun l69 w11 =>
          cnd (l69)
            (
            K false w11
            )
            (
            next59 (IntKind.i64.wrap (l59 + 1)) w11
            )
          )
          (
          ld Sl.v ((Addr.mk b1 0 none).add 12) w8 fun x71 =>
          ld Sl.v ((Addr.mk b2 0 none).add 12) w8 fun x72 =>
          jp (fun J73 => cnd (decide ((x71.len : Int) = (x72.len : Int)))
            (
            ld (Value.int .i64) ((Addr.mk b1 0 none).add 2) w8 fun x75 =>
            ld (Value.int .i64) ((Addr.mk b2 0 none).add 2) w8 fun x76 =>
            J73 (decide (x75 = x76))
            )
            (
            J73 false
            ))
          fun c77 =>
          K c77 w8
          )
      ) 0 w5
      )
  ) 0 w4
set_option maxRecDepth 100000 in
theorem D20 (p0_0 : ByteArray) (p0_1 : Int) (p0_2 : Int) (p0_3 : Int) (p0_4 : Bool) (p0_5 : Int) (p0_6 : Bool) (p0_7 : Bool) (p0_8 : Int) (p0_9 : Int) (p0_10 : Int) (p0_11 : Int) (p0_12 : Sl) (p0_13 : Int) (p0_14 : Int) (p0_15 : Int) (p0_16 : Int) (p0_17 : Bool) (p0_18 : Int) (p0_19 : Int) (p0_20 : Int) (p0_21 : Int) (p1_0 : ByteArray) (p1_1 : Int) (p1_2 : Int) (p1_3 : Int) (p1_4 : Bool) (p1_5 : Int) (p1_6 : Bool) (p1_7 : Bool) (p1_8 : Int) (p1_9 : Int) (p1_10 : Int) (p1_11 : Int) (p1_12 : Sl) (p1_13 : Int) (p1_14 : Int) (p1_15 : Int) (p1_16 : Int) (p1_17 : Bool) (p1_18 : Int) (p1_19 : Int) (p1_20 : Int) (p1_21 : Int) (w0 : World) (K : Bool → World → Prop) (h : F20 p0_0 p0_1 p0_2 p0_3 p0_4 p0_5 p0_6 p0_7 p0_8 p0_9 p0_10 p0_11 p0_12 p0_13 p0_14 p0_15 p0_16 p0_17 p0_18 p0_19 p0_20 p0_21 p1_0 p1_1 p1_2 p1_3 p1_4 p1_5 p1_6 p1_7 p1_8 p1_9 p1_10 p1_11 p1_12 p1_13 p1_14 p1_15 p1_16 p1_17 p1_18 p1_19 p1_20 p1_21 w0 K) : callC Try.prog 20 #[(V23 p0_0 p0_1 p0_2 p0_3 p0_4 p0_5 p0_6 p0_7 p0_8 p0_9 p0_10 p0_11 p0_12 p0_13 p0_14 p0_15 p0_16 p0_17 p0_18 p0_19 p0_20 p0_21), (V23 p1_0 p1_1 p1_2 p1_3 p1_4 p1_5 p1_6 p1_7 p1_8 p1_9 p1_10 p1_11 p1_12 p1_13 p1_14 p1_15 p1_16 p1_17 p1_18 p1_19 p1_20 p1_21)] (fun (r : Bool) => (Value.bool r)) w0 K := by
  unfold F20 at h
  refine calls_of_wpC Try.func20 rfl 58 rfl (by simp) ?_
  intro ρ hρ
  have e0 : ρ 0 = (V23 p0_0 p0_1 p0_2 p0_3 p0_4 p0_5 p0_6 p0_7 p0_8 p0_9 p0_10 p0_11 p0_12 p0_13 p0_14 p0_15 p0_16 p0_17 p0_18 p0_19 p0_20 p0_21) := hρ 0
  have e1 : ρ 1 = (V23 p1_0 p1_1 p1_2 p1_3 p1_4 p1_5 p1_6 p1_7 p1_8 p1_9 p1_10 p1_11 p1_12 p1_13 p1_14 p1_15 p1_16 p1_17 p1_18 p1_19 p1_20 p1_21) := hρ 1
  clear hρ
  refine wpC_seq ?_
  refine wpC_region ?_
  obtain ⟨b1, hb1⟩ : ∃ u, u = w0.heap.size := ⟨_, rfl⟩
  obtain ⟨w1, hw1⟩ : ∃ u, u = w0.alloc (.cells (A23 p0_0 p0_1 p0_2 p0_3 p0_4 p0_5 p0_6 p0_7 p0_8 p0_9 p0_10 p0_11 p0_12 p0_13 p0_14 p0_15 p0_16 p0_17 p0_18 p0_19 p0_20 p0_21) 24) := ⟨_, rfl⟩
  replace h := h b1 w1 hb1 hw1
  refine wpR_val (v := (Value.pointer (some (Addr.mk b1 0 none)))) (w' := w1) rfl rfl rfl ((x_box (v := (V23 p0_0 p0_1 p0_2 p0_3 p0_4 p0_5 p0_6 p0_7 p0_8 p0_9 p0_10 p0_11 p0_12 p0_13 p0_14 p0_15 p0_16 p0_17 p0_18 p0_19 p0_20 p0_21)) rfl e0).trans (by rw [hb1, hw1]; rfl)) ?_
  obtain ⟨b2, hb2⟩ : ∃ u, u = w1.heap.size := ⟨_, rfl⟩
  obtain ⟨w2, hw2⟩ : ∃ u, u = w1.alloc (.cells (A23 p1_0 p1_1 p1_2 p1_3 p1_4 p1_5 p1_6 p1_7 p1_8 p1_9 p1_10 p1_11 p1_12 p1_13 p1_14 p1_15 p1_16 p1_17 p1_18 p1_19 p1_20 p1_21) 24) := ⟨_, rfl⟩
  replace h := h b2 w2 hb2 hw2
  refine wpR_val (v := (Value.pointer (some (Addr.mk b2 0 none)))) (w' := w2) rfl rfl rfl ((x_box (v := (V23 p1_0 p1_1 p1_2 p1_3 p1_4 p1_5 p1_6 p1_7 p1_8 p1_9 p1_10 p1_11 p1_12 p1_13 p1_14 p1_15 p1_16 p1_17 p1_18 p1_19 p1_20 p1_21)) rfl e1).trans (by rw [hb2, hw2]; rfl)) ?_
  refine wpR_val (v := (Value.bool false)) (w' := w2) rfl rfl rfl (x_assign (v := (Value.bool false)) rfl rfl) ?_
  refine wpR_nil ?_
  refine wpC_seq ?_
  refine wpC_cut (fun ρ => ρ 2 = (Value.pointer (some (Addr.mk b1 0 none))) ∧ ρ 3 = (Value.pointer (some (Addr.mk b2 0 none))) ∧ True) ⟨rfl, rfl, trivial⟩ ?_
  rintro ρ ⟨e2, e3, -⟩
  refine wpC_region ?_
  obtain ⟨x3, q3, x4, q4, x5, q5, x6, q6, x7, q7, x8, q8, x9, q9, x10, q10, x11, q11, x12, q12, x13, q13, x14, q14, x15, q15, x16, q16, x17, q17, x18, q18, x19, q19, x20, q20, x21, q21, x22, q22, x23, q23, x24, q24, h⟩ := h
  refine wpR_val (v := (V23 x3 x4 x5 x6 x7 x8 x9 x10 x11 x12 x13 x14 x15 x16 x17 x18 x19 x20 x21 x22 x23 x24)) (w' := w2) rfl rfl rfl (x_loadN (S23 x3 x4 x5 x6 x7 x8 x9 x10 x11 x12 x13 x14 x15 x16 x17 x18 x19 x20 x21 x22 x23 x24) rfl e2 SH_24 (K23 ⟨q3, q4, q5, q6, q7, q8, q9, q10, q11, q12, q13, q14, q15, q16, q17, q18, q19, q20, q21, q22, q23, q24⟩)) ?_
  refine wpR_enter rfl rfl rfl (x_call (vs := [(V23 x3 x4 x5 x6 x7 x8 x9 x10 x11 x12 x13 x14 x15 x16 x17 x18 x19 x20 x21 x22 x23 x24)]) rfl rfl (mapl_cons rfl mapl_nil) Try.func31 NN_31 NB_31) (Calls.mono h ?_)
  rintro _ w3 ⟨r25, rfl, h⟩
  refine ⟨_, rfl, ?_⟩
  refine wpR_val (v := (Sl.v r25)) (w' := w3) rfl rfl rfl (x_assign (v := (Sl.v r25)) rfl rfl) ?_
  refine wpR_nil ?_
  refine wpC_seq ?_
  refine wpC_cut (fun ρ => ρ 2 = (Value.pointer (some (Addr.mk b1 0 none))) ∧ ρ 3 = (Value.pointer (some (Addr.mk b2 0 none))) ∧ ρ 5 = (Sl.v r25) ∧ True) ⟨e2, e3, rfl, trivial⟩ ?_
  rintro ρ ⟨e2, e3, e5, -⟩
  refine wpC_region ?_
  obtain ⟨x26, q26, x27, q27, x28, q28, x29, q29, x30, q30, x31, q31, x32, q32, x33, q33, x34, q34, x35, q35, x36, q36, x37, q37, x38, q38, x39, q39, x40, q40, x41, q41, x42, q42, x43, q43, x44, q44, x45, q45, x46, q46, x47, q47, h⟩ := h
  refine wpR_val (v := (V23 x26 x27 x28 x29 x30 x31 x32 x33 x34 x35 x36 x37 x38 x39 x40 x41 x42 x43 x44 x45 x46 x47)) (w' := w3) rfl rfl rfl (x_loadN (S23 x26 x27 x28 x29 x30 x31 x32 x33 x34 x35 x36 x37 x38 x39 x40 x41 x42 x43 x44 x45 x46 x47) rfl e3 SH_24 (K23 ⟨q26, q27, q28, q29, q30, q31, q32, q33, q34, q35, q36, q37, q38, q39, q40, q41, q42, q43, q44, q45, q46, q47⟩)) ?_
  refine wpR_enter rfl rfl rfl (x_call (vs := [(V23 x26 x27 x28 x29 x30 x31 x32 x33 x34 x35 x36 x37 x38 x39 x40 x41 x42 x43 x44 x45 x46 x47)]) rfl rfl (mapl_cons rfl mapl_nil) Try.func31 NN_31 NB_31) (Calls.mono h ?_)
  rintro _ w4 ⟨r48, rfl, h⟩
  refine ⟨_, rfl, ?_⟩
  refine wpR_val (v := (Sl.v r48)) (w' := w4) rfl rfl rfl (x_assign (v := (Sl.v r48)) rfl rfl) ?_
  refine wpR_nil ?_
  refine wpC_seq ?_
  refine wpC_seq ?_
  refine wpC_cut (fun ρ => ρ 2 = (Value.pointer (some (Addr.mk b1 0 none))) ∧ ρ 3 = (Value.pointer (some (Addr.mk b2 0 none))) ∧ ρ 5 = (Sl.v r25) ∧ ρ 6 = (Sl.v r48) ∧ True) ⟨e2, e3, e5, rfl, trivial⟩ ?_
  rintro ρ ⟨e2, e3, e5, e6, -⟩
  refine wpC_region ?_
  refine wpR_val (v := (Value.int .i64 0)) (w' := w4) rfl rfl rfl (x_assign (v := (Value.int .i64 0)) rfl rfl) ?_
  refine wpR_nil ?_
  refine wpC_block ?_
  obtain ⟨I49, μ49, hI49, hr49⟩ := h
  refine wpC_loop (fun (x : Int) ρ => ρ 7 = (Value.int .i64 x) ∧ ρ 2 = (Value.pointer (some (Addr.mk b1 0 none))) ∧ ρ 3 = (Value.pointer (some (Addr.mk b2 0 none))) ∧ ρ 5 = (Sl.v r25) ∧ ρ 6 = (Sl.v r48) ∧ True) I49 μ49 0 ⟨rfl, e2, e3, e5, e6, trivial⟩ hI49 ?_
  rintro l49 ρ w5 ⟨e7, e2, e3, e5, e6, -⟩ h
  replace h := hr49 l49 w5 h
  clear hr49 hI49
  refine wpC_seq ?_
  refine wpC_seq ?_
  refine wpC_region ?_
  refine wpR_val (v := (Value.int .i64 l49)) (w' := w5) rfl rfl rfl (x_move (v := (Value.int .i64 l49)) rfl e7) ?_
  refine wpR_val (v := (Sl.v r25)) (w' := w5) rfl rfl rfl (x_move (v := (Sl.v r25)) rfl e5) ?_
  refine wpR_val (v := (Value.int .i64 (r25.len : Int))) (w' := w5) rfl rfl rfl (x_lenS (s := r25) rfl rfl isSliceT_38) ?_
  refine wpR_val (v := (Value.bool (decide (l49 < (r25.len : Int))))) (w' := w5) rfl rfl rfl (x_lss rfl rfl rfl) ?_
  refine wpR_nil ?_
  refine wpC_cond (b := decide (l49 < (r25.len : Int))) rfl (fun hc50 => ?_) (fun hc50 => ?_)
  · replace h := h.1 hc50
    refine wpC_skip ?_
    refine wpC_seq ?_
    refine wpC_block ?_
    refine wpC_seq ?_
    refine wpC_cut (fun ρ => ρ 2 = (Value.pointer (some (Addr.mk b1 0 none))) ∧ ρ 3 = (Value.pointer (some (Addr.mk b2 0 none))) ∧ ρ 5 = (Sl.v r25) ∧ ρ 6 = (Sl.v r48) ∧ ρ 7 = (Value.int .i64 l49) ∧ True) ⟨e2, e3, e5, e6, e7, trivial⟩ ?_
    rintro ρ ⟨e2, e3, e5, e6, e7, -⟩
    obtain ⟨J52, h, hk⟩ := h
    refine wpC_drawJ (by kernel_rfl) (fun (x : Bool) ρ => ρ 27 = (Value.bool x) ∧ ρ 2 = (Value.pointer (some (Addr.mk b1 0 none))) ∧ ρ 3 = (Value.pointer (some (Addr.mk b2 0 none))) ∧ ρ 5 = (Sl.v r25) ∧ ρ 6 = (Sl.v r48) ∧ ρ 7 = (Value.int .i64 l49) ∧ True) J52 ?_ ?_
    · clear hk
      unfold tk at h
      generalize w5.drew = w6 at h ⊢
      refine wpD_take (v := (Sl.v r25)) 0 (fun _ => True) rfl (by kernel_rfl) (by kernel_rfl) (by kernel_rfl) rfl rfl rfl trivial (fun w _ => (x_move (v := (Sl.v r25)) rfl e5)) ?_
      refine wpD_take (v := (Value.int .i64 l49)) 1 (fun _ => True) rfl (by kernel_rfl) (by kernel_rfl) (by kernel_rfl) rfl rfl rfl trivial (fun w _ => (x_move (v := (Value.int .i64 l49)) rfl e7)) ?_
      obtain ⟨q53, z53, r53, h⟩ := h
      generalize hp53 : z53.add ((l49 : Int).toNat * 1) = p53 at h
      refine wpD_take (v := (Value.pointer (some p53))) 2 (fun _ => True) rfl (by kernel_rfl) (by kernel_rfl) (by kernel_rfl) rfl rfl rfl trivial (fun w _ => ((x_indexAddr (s := r25) rfl rfl rfl ES_38 q53 r53).trans (by rw [hp53]))) ?_
      obtain ⟨x54, q54, h⟩ := h
      refine wpD_take (v := (Value.int .i64 x54)) 3 (fun w => w.cell? p53 = some (Value.int .i64 x54)) rfl (by kernel_rfl) (by kernel_rfl) (by kernel_rfl) rfl rfl rfl q54 (fun w q54 => (x_load1 rfl rfl SH_3 q54)) ?_
      refine wpD_take (v := (Sl.v r48)) 4 (fun _ => True) rfl (by kernel_rfl) (by kernel_rfl) (by kernel_rfl) rfl rfl rfl trivial (fun w _ => (x_move (v := (Sl.v r48)) rfl e6)) ?_
      refine wpD_take (v := (Value.int .i64 l49)) 5 (fun _ => True) rfl (by kernel_rfl) (by kernel_rfl) (by kernel_rfl) rfl rfl rfl trivial (fun w _ => (x_move (v := (Value.int .i64 l49)) rfl e7)) ?_
      obtain ⟨q55, z55, r55, h⟩ := h
      generalize hp55 : z55.add ((l49 : Int).toNat * 1) = p55 at h
      refine wpD_take (v := (Value.pointer (some p55))) 6 (fun _ => True) rfl (by kernel_rfl) (by kernel_rfl) (by kernel_rfl) rfl rfl rfl trivial (fun w _ => ((x_indexAddr (s := r48) rfl rfl rfl ES_38 q55 r55).trans (by rw [hp55]))) ?_
      obtain ⟨x56, q56, h⟩ := h
      refine wpD_take (v := (Value.int .i64 x56)) 7 (fun w => w.cell? p55 = some (Value.int .i64 x56)) rfl (by kernel_rfl) (by kernel_rfl) (by kernel_rfl) rfl rfl rfl q56 (fun w q56 => (x_load1 rfl rfl SH_3 q56)) ?_
      refine wpD_take (v := (Value.bool (!decide (x54 = x56)))) 8 (fun _ => True) rfl (by kernel_rfl) (by kernel_rfl) (by kernel_rfl) rfl rfl rfl trivial (fun w _ => (x_neq rfl rfl rfl)) ?_
      exact wpD_done (by kernel_rfl) ⟨!decide (x54 = x56), ⟨rfl, e2, e3, e5, e6, e7, trivial⟩, h⟩
    clear h
    rintro l57 ρ w7 ⟨e27, e2, e3, e5, e6, e7, -⟩ h
    replace h := hk l57 w7 h
    clear hk
    refine wpC_cond (b := l57) e27 (fun hc58 => ?_) (fun hc58 => ?_)
    · replace h := h.1 hc58
      refine wpC_seq ?_
      refine wpC_region ?_
      refine wpR_val (v := (Value.bool false)) (w' := w7) rfl rfl rfl (x_assign (v := (Value.bool false)) rfl rfl) ?_
      refine wpR_nil ?_
      refine wpC_ret ?_
      exact ⟨.inl rfl, fun a ha => ⟨_, results_rep1 rfl ha rfl, false, rfl, h⟩⟩
    · replace h := h.2 hc58
      refine wpC_skip ?_
      refine wpC_region ?_
      refine wpR_val (v := (Value.int .i64 l49)) (w' := w7) rfl rfl rfl (x_move (v := (Value.int .i64 l49)) rfl e7) ?_
      refine wpR_val (v := (Value.int .i64 (IntKind.i64.wrap (l49 + 1)))) (w' := w7) rfl rfl rfl (x_add rfl rfl rfl) ?_
      refine wpR_val (v := (Value.int .i64 (IntKind.i64.wrap (l49 + 1)))) (w' := w7) rfl rfl rfl (x_assign (v := (Value.int .i64 (IntKind.i64.wrap (l49 + 1)))) rfl rfl) ?_
      refine wpR_nil ?_
      exact ⟨IntKind.i64.wrap (l49 + 1), ⟨rfl, e2, e3, e5, e6, trivial⟩, h⟩
  · replace h := h.2 hc50
    refine wpC_exit ?_
    refine wpC_seq ?_
    refine wpC_seq ?_
    refine wpC_cut (fun ρ => ρ 2 = (Value.pointer (some (Addr.mk b1 0 none))) ∧ ρ 3 = (Value.pointer (some (Addr.mk b2 0 none))) ∧ True) ⟨e2, e3, trivial⟩ ?_
    rintro ρ ⟨e2, e3, -⟩
    refine wpC_region ?_
    refine wpR_val (v := (Value.int .i64 0)) (w' := w5) rfl rfl rfl (x_assign (v := (Value.int .i64 0)) rfl rfl) ?_
    refine wpR_nil ?_
    refine wpC_block ?_
    obtain ⟨I59, μ59, hI59, hr59⟩ := h
    refine wpC_loop (fun (x : Int) ρ => ρ 8 = (Value.int .i64 x) ∧ ρ 2 = (Value.pointer (some (Addr.mk b1 0 none))) ∧ ρ 3 = (Value.pointer (some (Addr.mk b2 0 none))) ∧ True) I59 μ59 0 ⟨rfl, e2, e3, trivial⟩ hI59 ?_
    rintro l59 ρ w8 ⟨e8, e2, e3, -⟩ h
    replace h := hr59 l59 w8 h
    clear hr59 hI59
    refine wpC_seq ?_
    refine wpC_seq ?_
    refine wpC_region ?_
    refine wpR_val (v := (Value.int .i64 l59)) (w' := w8) rfl rfl rfl (x_move (v := (Value.int .i64 l59)) rfl e8) ?_
    refine wpR_val (v := (Value.pointer (some ((Addr.mk b1 0 none).add 12)))) (w' := w8) rfl rfl rfl (x_fieldAddr rfl e2 FA_24_12) ?_
    obtain ⟨x60, q60, h⟩ := h
    refine wpR_val (v := (Sl.v x60)) (w' := w8) rfl rfl rfl (x_load1 rfl rfl SH_22 q60) ?_
    refine wpR_val (v := (Value.int .i64 (x60.len : Int))) (w' := w8) rfl rfl rfl (x_lenS (s := x60) rfl rfl isSliceT_22) ?_
    refine wpR_val (v := (Value.bool (decide (l59 < (x60.len : Int))))) (w' := w8) rfl rfl rfl (x_lss rfl rfl rfl) ?_
    refine wpR_nil ?_
    refine wpC_cond (b := decide (l59 < (x60.len : Int))) rfl (fun hc61 => ?_) (fun hc61 => ?_)
    · replace h := h.1 hc61
      refine wpC_skip ?_
      refine wpC_seq ?_
      refine wpC_block ?_
      refine wpC_seq ?_
      refine wpC_cut (fun ρ => ρ 2 = (Value.pointer (some (Addr.mk b1 0 none))) ∧ ρ 3 = (Value.pointer (some (Addr.mk b2 0 none))) ∧ ρ 8 = (Value.int .i64 l59) ∧ True) ⟨e2, e3, e8, trivial⟩ ?_
      rintro ρ ⟨e2, e3, e8, -⟩
      obtain ⟨J63, h, hk⟩ := h
      refine wpC_drawJ (by kernel_rfl) (fun (x : Bool) ρ => ρ 43 = (Value.bool x) ∧ ρ 2 = (Value.pointer (some (Addr.mk b1 0 none))) ∧ ρ 3 = (Value.pointer (some (Addr.mk b2 0 none))) ∧ ρ 8 = (Value.int .i64 l59) ∧ True) J63 ?_ ?_
      · clear hk
        unfold tk at h
        generalize w8.drew = w9 at h ⊢
        refine wpD_take (v := (Value.pointer (some ((Addr.mk b2 0 none).add 12)))) 0 (fun _ => True) rfl (by kernel_rfl) (by kernel_rfl) (by kernel_rfl) rfl rfl rfl trivial (fun w _ => (x_fieldAddr rfl e3 FA_24_12)) ?_
        obtain ⟨x64, q64, h⟩ := h
        refine wpD_take (v := (Sl.v x64)) 1 (fun w => w.cell? ((Addr.mk b2 0 none).add 12) = some (Sl.v x64)) rfl (by kernel_rfl) (by kernel_rfl) (by kernel_rfl) rfl rfl rfl q64 (fun w q64 => (x_load1 rfl rfl SH_22 q64)) ?_
        refine wpD_take (v := (Value.pointer (some ((Addr.mk b1 0 none).add 12)))) 2 (fun _ => True) rfl (by kernel_rfl) (by kernel_rfl) (by kernel_rfl) rfl rfl rfl trivial (fun w _ => (x_fieldAddr rfl e2 FA_24_12)) ?_
        obtain ⟨x65, q65, h⟩ := h
        refine wpD_take (v := (Sl.v x65)) 3 (fun w => w.cell? ((Addr.mk b1 0 none).add 12) = some (Sl.v x65)) rfl (by kernel_rfl) (by kernel_rfl) (by kernel_rfl) rfl rfl rfl q65 (fun w q65 => (x_load1 rfl rfl SH_22 q65)) ?_
        refine wpD_take (v := (Value.int .i64 l59)) 4 (fun _ => True) rfl (by kernel_rfl) (by kernel_rfl) (by kernel_rfl) rfl rfl rfl trivial (fun w _ => (x_move (v := (Value.int .i64 l59)) rfl e8)) ?_
        obtain ⟨q66, z66, r66, h⟩ := h
        generalize hp66 : z66.add ((l59 : Int).toNat * 1) = p66 at h
        refine wpD_take (v := (Value.pointer (some p66))) 5 (fun _ => True) rfl (by kernel_rfl) (by kernel_rfl) (by kernel_rfl) rfl rfl rfl trivial (fun w _ => ((x_indexAddr (s := x65) rfl rfl rfl ES_22 q66 r66).trans (by rw [hp66]))) ?_
        obtain ⟨x67, q67, h⟩ := h
        refine wpD_take (v := (Value.string x67)) 6 (fun w => w.cell? p66 = some (Value.string x67)) rfl (by kernel_rfl) (by kernel_rfl) (by kernel_rfl) rfl rfl rfl q67 (fun w q67 => (x_load1 rfl rfl SH_9 q67)) ?_
        refine wpD_all (rs := [7]) (by kernel_rfl) (by simp) (allD_cons ?_ allD_nil)
        refine stepD_enterL (L' := [(5, fun _ => True), (4, fun _ => True), (3, fun w => w.cell? ((Addr.mk b1 0 none).add 12) = some (Sl.v x65)), (2, fun _ => True), (0, fun _ => True)]) rfl rfl rfl rfl (x_call (vs := [(Sl.v x64), (Value.string x67)]) rfl rfl (mapl_cons rfl (mapl_cons rfl mapl_nil)) Try.func32 NN_32 NB_32) (by kernel_rfl) (Calls.mono h ?_)
        rintro _ w10 ⟨r68, rfl, h⟩
        obtain ⟨o3, h⟩ := h
        refine ⟨_, rfl, (held_cons trivial (held_cons trivial (held_cons o3 (held_cons trivial (held_cons trivial held_nil))))), ?_⟩
        refine wpD_take (v := (Value.bool (!r68))) 8 (fun _ => True) rfl (by kernel_rfl) (by kernel_rfl) (by kernel_rfl) rfl rfl rfl trivial (fun w _ => (x_not rfl rfl)) ?_
        exact wpD_done (by kernel_rfl) ⟨!r68, ⟨rfl, e2, e3, e8, trivial⟩, h⟩
      clear h
      rintro l69 ρ w11 ⟨e43, e2, e3, e8, -⟩ h
      replace h := hk l69 w11 h
      clear hk
      refine wpC_cond (b := l69) e43 (fun hc70 => ?_) (fun hc70 => ?_)
      · replace h := h.1 hc70
        refine wpC_seq ?_
        refine wpC_region ?_
        refine wpR_val (v := (Value.bool false)) (w' := w11) rfl rfl rfl (x_assign (v := (Value.bool false)) rfl rfl) ?_
        refine wpR_nil ?_
        refine wpC_ret ?_
        exact ⟨.inl rfl, fun a ha => ⟨_, results_rep1 rfl ha rfl, false, rfl, h⟩⟩
      · replace h := h.2 hc70
        refine wpC_skip ?_
        refine wpC_region ?_
        refine wpR_val (v := (Value.int .i64 l59)) (w' := w11) rfl rfl rfl (x_move (v := (Value.int .i64 l59)) rfl e8) ?_
        refine wpR_val (v := (Value.int .i64 (IntKind.i64.wrap (l59 + 1)))) (w' := w11) rfl rfl rfl (x_add rfl rfl rfl) ?_
        refine wpR_val (v := (Value.int .i64 (IntKind.i64.wrap (l59 + 1)))) (w' := w11) rfl rfl rfl (x_assign (v := (Value.int .i64 (IntKind.i64.wrap (l59 + 1)))) rfl rfl) ?_
        refine wpR_nil ?_
        exact ⟨IntKind.i64.wrap (l59 + 1), ⟨rfl, e2, e3, trivial⟩, h⟩
    · replace h := h.2 hc61
      refine wpC_exit ?_
      refine wpC_seq ?_
      refine wpC_cut (fun ρ => ρ 2 = (Value.pointer (some (Addr.mk b1 0 none))) ∧ ρ 3 = (Value.pointer (some (Addr.mk b2 0 none))) ∧ True) ⟨e2, e3, trivial⟩ ?_
      rintro ρ ⟨e2, e3, -⟩
      refine wpC_region ?_
      refine wpR_val (v := (Value.pointer (some ((Addr.mk b1 0 none).add 12)))) (w' := w8) rfl rfl rfl (x_fieldAddr rfl e2 FA_24_12) ?_
      obtain ⟨x71, q71, h⟩ := h
      refine wpR_val (v := (Sl.v x71)) (w' := w8) rfl rfl rfl (x_load1 rfl rfl SH_22 q71) ?_
      refine wpR_val (v := (Value.int .i64 (x71.len : Int))) (w' := w8) rfl rfl rfl (x_lenS (s := x71) rfl rfl isSliceT_22) ?_
      refine wpR_val (v := (Value.pointer (some ((Addr.mk b2 0 none).add 12)))) (w' := w8) rfl rfl rfl (x_fieldAddr rfl e3 FA_24_12) ?_
      obtain ⟨x72, q72, h⟩ := h
      refine wpR_val (v := (Sl.v x72)) (w' := w8) rfl rfl rfl (x_load1 rfl rfl SH_22 q72) ?_
      refine wpR_val (v := (Value.int .i64 (x72.len : Int))) (w' := w8) rfl rfl rfl (x_lenS (s := x72) rfl rfl isSliceT_22) ?_
      refine wpR_val (v := (Value.bool (decide ((x71.len : Int) = (x72.len : Int))))) (w' := w8) rfl rfl rfl (x_eql rfl rfl rfl) ?_
      refine wpR_val (v := (Value.bool (decide ((x71.len : Int) = (x72.len : Int))))) (w' := w8) rfl rfl rfl (x_move (v := (Value.bool (decide ((x71.len : Int) = (x72.len : Int))))) rfl rfl) ?_
      obtain ⟨J73, h, hk⟩ := h
      refine wpR_joinJ 6 (fun x ρ => ρ 57 = Value.bool x ∧ True) (fun x w => J73 x ∧ w8 = w) ?_ ?_
      · clear hk
        rcases Bool.eq_false_or_eq_true (decide ((x71.len : Int) = (x72.len : Int))) with hc74 | hc74
        · replace h := h.1 hc74
          refine wpR_val (v := (Value.pointer (some ((Addr.mk b1 0 none).add 2)))) (w' := w8) (wantG rfl rfl rfl hc74) rfl rfl (x_fieldAddr rfl e2 FA_24_2) ?_
          obtain ⟨x75, q75, h⟩ := h
          refine wpR_val (v := (Value.int .i64 x75)) (w' := w8) (wantG rfl rfl rfl hc74) rfl rfl (x_load1 rfl rfl SH_3 q75) ?_
          refine wpR_val (v := (Value.pointer (some ((Addr.mk b2 0 none).add 2)))) (w' := w8) (wantG rfl rfl rfl hc74) rfl rfl (x_fieldAddr rfl e3 FA_24_2) ?_
          obtain ⟨x76, q76, h⟩ := h
          refine wpR_val (v := (Value.int .i64 x76)) (w' := w8) (wantG rfl rfl rfl hc74) rfl rfl (x_load1 rfl rfl SH_3 q76) ?_
          refine wpR_val (v := (Value.bool (decide (x75 = x76)))) (w' := w8) (wantG rfl rfl rfl hc74) rfl rfl (x_eql rfl rfl rfl) ?_
          refine wpR_val (v := (Value.bool (decide (x75 = x76)))) (w' := w8) rfl rfl rfl (x_pickT (v := (Value.bool (decide (x75 = x76)))) rfl rfl hc74 rfl) ?_
          refine wpR_nil ?_
          exact ⟨decide (x75 = x76), ⟨rfl, trivial⟩, h, rfl⟩
        · replace h := h.2 hc74
          refine wpR_pass (wantN rfl rfl rfl hc74) rfl rfl ?_
          refine wpR_pass (wantN rfl rfl rfl hc74) rfl rfl ?_
          refine wpR_pass (wantN rfl rfl rfl hc74) rfl rfl ?_
          refine wpR_pass (wantN rfl rfl rfl hc74) rfl rfl ?_
          refine wpR_pass (wantN rfl rfl rfl hc74) rfl rfl ?_
          refine wpR_val (v := (Value.bool false)) (w' := w8) rfl rfl rfl (x_pickF (v := (Value.bool false)) rfl rfl hc74 rfl) ?_
          refine wpR_nil ?_
          exact ⟨false, ⟨rfl, trivial⟩, h, rfl⟩
      clear h
      rintro c77 ρ wj ⟨e57, -⟩ ⟨h, rfl⟩
      replace h := hk c77 h
      clear hk
      refine wpR_val (v := (Value.bool c77)) (w' := w8) rfl rfl rfl (x_assign (v := (Value.bool c77)) rfl e57) ?_
      refine wpR_nil ?_
      refine wpC_ret ?_
      exact ⟨.inl rfl, fun a ha => ⟨_, results_rep1 rfl ha rfl, c77, rfl, h⟩⟩

/-- lingualaw13.one -/
def F21  (w0 : World) (K : T23 → World → Prop) : Prop :=
  nw 24 (A23 (ByteArray.mk #[]) 0 0 0 false 0 false false 0 0 0 0 Sl.nil 0 0 0 0 false 0 0 0 0) w0 fun b1 w1 =>
  nw 9 #[(Value.string (ByteArray.mk #[112, 110, 103])), (Value.string (ByteArray.mk #[116, 120, 116]))] w1 fun b2 w2 =>
  st (Addr.mk b1 0 none) (S23 (ByteArray.mk #[112]) 2 5 1 false 1 false false 100 3 2 1000 (⟨some ⟨b2, 0, none⟩, 2, 2⟩ : Sl) 0 0 0 0 false 1 0 1 0) w2 fun w3 =>
  L23 (Addr.mk b1 0 none) w3 fun x4 x5 x6 x7 x8 x9 x10 x11 x12 x13 x14 x15 x16 x17 x18 x19 x20 x21 x22 x23 x24 x25 =>
  K (x4, x5, x6, x7, x8, x9, x10, x11, x12, x13, x14, x15, x16, x17, x18, x19, x20, x21, x22, x23, x24, x25) w3
set_option maxRecDepth 100000 in
theorem D21  (w0 : World) (K : T23 → World → Prop) (h : F21  w0 K) : callC Try.prog 21 #[] E23 w0 K := by
  unfold F21 at h
  refine calls_of_wpC Try.func21 rfl 3 rfl (by simp) ?_
  intro ρ hρ
  clear hρ
  refine wpC_seq ?_
  refine wpC_region ?_
  obtain ⟨b1, hb1⟩ : ∃ u, u = w0.heap.size := ⟨_, rfl⟩
  obtain ⟨w1, hw1⟩ : ∃ u, u = w0.alloc (.cells (A23 (ByteArray.mk #[]) 0 0 0 false 0 false false 0 0 0 0 Sl.nil 0 0 0 0 false 0 0 0 0) 24) := ⟨_, rfl⟩
  replace h := h b1 w1 hb1 hw1
  refine wpR_val (v := (Value.pointer (some (Addr.mk b1 0 none)))) (w' := w1) rfl rfl rfl ((x_alloc rfl ZV_24).trans (by rw [hb1, hw1]; rfl)) ?_
  refine wpR_nil ?_
  refine wpC_seq ?_
  refine wpC_cut (fun ρ => ρ 0 = (Value.pointer (some (Addr.mk b1 0 none))) ∧ True) ⟨rfl, trivial⟩ ?_
  rintro ρ ⟨e0, -⟩
  refine wpC_region ?_
  obtain ⟨b2, hb2⟩ : ∃ u, u = w1.heap.size := ⟨_, rfl⟩
  obtain ⟨w2, hw2⟩ : ∃ u, u = w1.alloc (.cells #[(Value.string (ByteArray.mk #[112, 110, 103])), (Value.string (ByteArray.mk #[116, 120, 116]))] 9) := ⟨_, rfl⟩
  replace h := h b2 w2 hb2 hw2
  refine wpR_val (v := (Sl.v (⟨some ⟨b2, 0, none⟩, 2, 2⟩ : Sl))) (w' := w2) rfl rfl rfl ((x_buildSlice (qs := [(0, (Value.string (ByteArray.mk #[112, 110, 103]))), (1, (Value.string (ByteArray.mk #[116, 120, 116])))]) rfl (by rfl) (BS_22_2_0_1 (ByteArray.mk #[112, 110, 103]) (ByteArray.mk #[116, 120, 116]))).trans (by rw [← hb2, ← hw2])) ?_
  refine wpR_val (v := (V23 (ByteArray.mk #[112]) 2 5 1 false 1 false false 100 3 2 1000 (⟨some ⟨b2, 0, none⟩, 2, 2⟩ : Sl) 0 0 0 0 false 1 0 1 0)) (w' := w2) rfl rfl rfl (x_build (qs := [(0, (Value.string (ByteArray.mk #[112]))), (1, (Value.int .i64 2)), (2, (Value.int .i64 5)), (3, (Value.int .i64 1)), (5, (Value.int .i64 1)), (8, (Value.int .i64 100)), (9, (Value.int .i64 3)), (10, (Value.int .i64 2)), (11, (Value.int .i64 1000)), (12, (Sl.v (⟨some ⟨b2, 0, none⟩, 2, 2⟩ : Sl))), (18, (Value.int .i64 1)), (20, (Value.int .i64 1))]) rfl (by rfl) (BD_24_0_1_2_3_5_8_9_10_11_12_18_20 (ByteArray.mk #[112]) 2 5 1 1 100 3 2 1000 (⟨some ⟨b2, 0, none⟩, 2, 2⟩ : Sl) 1 1 _)) ?_
  obtain ⟨q3, h⟩ := h
  obtain ⟨w3, hw3⟩ : ∃ u, u = setAll w2 (Addr.mk b1 0 none) (S23 (ByteArray.mk #[112]) 2 5 1 false 1 false false 100 3 2 1000 (⟨some ⟨b2, 0, none⟩, 2, 2⟩ : Sl) 0 0 0 0 false 1 0 1 0) 0 := ⟨_, rfl⟩
  replace h := h w3 hw3
  refine wpR_skp (w' := w3) rfl rfl ((x_store (v := (V23 (ByteArray.mk #[112]) 2 5 1 false 1 false false 100 3 2 1000 (⟨some ⟨b2, 0, none⟩, 2, 2⟩ : Sl) 0 0 0 0 false 1 0 1 0)) rfl e0 rfl SZ_24 (ones (by rfl)) q3).trans (by rw [hw3]; rfl)) ?_
  refine wpR_nil ?_
  refine wpC_ret ?_
  obtain ⟨x4, q4, x5, q5, x6, q6, x7, q7, x8, q8, x9, q9, x10, q10, x11, q11, x12, q12, x13, q13, x14, q14, x15, q15, x16, q16, x17, q17, x18, q18, x19, q19, x20, q20, x21, q21, x22, q22, x23, q23, x24, q24, x25, q25, h⟩ := h
  exact ⟨.inl rfl, fun a ha => ⟨_, results_repC (S23 x4 x5 x6 x7 x8 x9 x10 x11 x12 x13 x14 x15 x16 x17 x18 x19 x20 x21 x22 x23 x24 x25) rfl ha e0 SH_24 (CellsAt.out (CellsAt.cons q4 (CellsAt.cons q5 (CellsAt.cons q6 (CellsAt.cons q7 (CellsAt.cons q8 (CellsAt.cons q9 (CellsAt.cons q10 (CellsAt.cons q11 (CellsAt.cons q12 (CellsAt.cons q13 (CellsAt.cons q14 (CellsAt.cons q15 (CellsAt.cons q16 (CellsAt.cons q17 (CellsAt.cons q18 (CellsAt.cons q19 (CellsAt.cons q20 (CellsAt.cons q21 (CellsAt.cons q22 (CellsAt.cons q23 (CellsAt.cons q24 (CellsAt.cons q25 CellsAt.nil))))))))))))))))))))))), (x4, x5, x6, x7, x8, x9, x10, x11, x12, x13, x14, x15, x16, x17, x18, x19, x20, x21, x22, x23, x24, x25), rfl, h⟩⟩

/-- lingualaw13.two -/
def F22  (w0 : World) (K : T23 → World → Prop) : Prop :=
  nw 24 (A23 (ByteArray.mk #[]) 0 0 0 false 0 false false 0 0 0 0 Sl.nil 0 0 0 0 false 0 0 0 0) w0 fun b1 w1 =>
  nw 9 #[(Value.string (ByteArray.mk #[116, 120, 116])), (Value.string (ByteArray.mk #[106, 112, 103]))] w1 fun b2 w2 =>
  st (Addr.mk b1 0 none) (S23 (ByteArray.mk #[113]) 2 0 2 false 0 false false 200 1 1 500 (⟨some ⟨b2, 0, none⟩, 2, 2⟩ : Sl) 0 0 0 0 false 1 0 1 0) w2 fun w3 =>
  L23 (Addr.mk b1 0 none) w3 fun x4 x5 x6 x7 x8 x9 x10 x11 x12 x13 x14 x15 x16 x17 x18 x19 x20 x21 x22 x23 x24 x25 =>
  K (x4, x5, x6, x7, x8, x9, x10, x11, x12, x13, x14, x15, x16, x17, x18, x19, x20, x21, x22, x23, x24, x25) w3
set_option maxRecDepth 100000 in
theorem D22  (w0 : World) (K : T23 → World → Prop) (h : F22  w0 K) : callC Try.prog 22 #[] E23 w0 K := by
  unfold F22 at h
  refine calls_of_wpC Try.func22 rfl 3 rfl (by simp) ?_
  intro ρ hρ
  clear hρ
  refine wpC_seq ?_
  refine wpC_region ?_
  obtain ⟨b1, hb1⟩ : ∃ u, u = w0.heap.size := ⟨_, rfl⟩
  obtain ⟨w1, hw1⟩ : ∃ u, u = w0.alloc (.cells (A23 (ByteArray.mk #[]) 0 0 0 false 0 false false 0 0 0 0 Sl.nil 0 0 0 0 false 0 0 0 0) 24) := ⟨_, rfl⟩
  replace h := h b1 w1 hb1 hw1
  refine wpR_val (v := (Value.pointer (some (Addr.mk b1 0 none)))) (w' := w1) rfl rfl rfl ((x_alloc rfl ZV_24).trans (by rw [hb1, hw1]; rfl)) ?_
  refine wpR_nil ?_
  refine wpC_seq ?_
  refine wpC_cut (fun ρ => ρ 0 = (Value.pointer (some (Addr.mk b1 0 none))) ∧ True) ⟨rfl, trivial⟩ ?_
  rintro ρ ⟨e0, -⟩
  refine wpC_region ?_
  obtain ⟨b2, hb2⟩ : ∃ u, u = w1.heap.size := ⟨_, rfl⟩
  obtain ⟨w2, hw2⟩ : ∃ u, u = w1.alloc (.cells #[(Value.string (ByteArray.mk #[116, 120, 116])), (Value.string (ByteArray.mk #[106, 112, 103]))] 9) := ⟨_, rfl⟩
  replace h := h b2 w2 hb2 hw2
  refine wpR_val (v := (Sl.v (⟨some ⟨b2, 0, none⟩, 2, 2⟩ : Sl))) (w' := w2) rfl rfl rfl ((x_buildSlice (qs := [(0, (Value.string (ByteArray.mk #[116, 120, 116]))), (1, (Value.string (ByteArray.mk #[106, 112, 103])))]) rfl (by rfl) (BS_22_2_0_1 (ByteArray.mk #[116, 120, 116]) (ByteArray.mk #[106, 112, 103]))).trans (by rw [← hb2, ← hw2])) ?_
  refine wpR_val (v := (V23 (ByteArray.mk #[113]) 2 0 2 false 0 false false 200 1 1 500 (⟨some ⟨b2, 0, none⟩, 2, 2⟩ : Sl) 0 0 0 0 false 1 0 1 0)) (w' := w2) rfl rfl rfl (x_build (qs := [(0, (Value.string (ByteArray.mk #[113]))), (1, (Value.int .i64 2)), (3, (Value.int .i64 2)), (8, (Value.int .i64 200)), (9, (Value.int .i64 1)), (10, (Value.int .i64 1)), (11, (Value.int .i64 500)), (12, (Sl.v (⟨some ⟨b2, 0, none⟩, 2, 2⟩ : Sl))), (18, (Value.int .i64 1)), (20, (Value.int .i64 1))]) rfl (by rfl) (BD_24_0_1_3_8_9_10_11_12_18_20 (ByteArray.mk #[113]) 2 2 200 1 1 500 (⟨some ⟨b2, 0, none⟩, 2, 2⟩ : Sl) 1 1 _)) ?_
  obtain ⟨q3, h⟩ := h
  obtain ⟨w3, hw3⟩ : ∃ u, u = setAll w2 (Addr.mk b1 0 none) (S23 (ByteArray.mk #[113]) 2 0 2 false 0 false false 200 1 1 500 (⟨some ⟨b2, 0, none⟩, 2, 2⟩ : Sl) 0 0 0 0 false 1 0 1 0) 0 := ⟨_, rfl⟩
  replace h := h w3 hw3
  refine wpR_skp (w' := w3) rfl rfl ((x_store (v := (V23 (ByteArray.mk #[113]) 2 0 2 false 0 false false 200 1 1 500 (⟨some ⟨b2, 0, none⟩, 2, 2⟩ : Sl) 0 0 0 0 false 1 0 1 0)) rfl e0 rfl SZ_24 (ones (by rfl)) q3).trans (by rw [hw3]; rfl)) ?_
  refine wpR_nil ?_
  refine wpC_ret ?_
  obtain ⟨x4, q4, x5, q5, x6, q6, x7, q7, x8, q8, x9, q9, x10, q10, x11, q11, x12, q12, x13, q13, x14, q14, x15, q15, x16, q16, x17, q17, x18, q18, x19, q19, x20, q20, x21, q21, x22, q22, x23, q23, x24, q24, x25, q25, h⟩ := h
  exact ⟨.inl rfl, fun a ha => ⟨_, results_repC (S23 x4 x5 x6 x7 x8 x9 x10 x11 x12 x13 x14 x15 x16 x17 x18 x19 x20 x21 x22 x23 x24 x25) rfl ha e0 SH_24 (CellsAt.out (CellsAt.cons q4 (CellsAt.cons q5 (CellsAt.cons q6 (CellsAt.cons q7 (CellsAt.cons q8 (CellsAt.cons q9 (CellsAt.cons q10 (CellsAt.cons q11 (CellsAt.cons q12 (CellsAt.cons q13 (CellsAt.cons q14 (CellsAt.cons q15 (CellsAt.cons q16 (CellsAt.cons q17 (CellsAt.cons q18 (CellsAt.cons q19 (CellsAt.cons q20 (CellsAt.cons q21 (CellsAt.cons q22 (CellsAt.cons q23 (CellsAt.cons q24 (CellsAt.cons q25 CellsAt.nil))))))))))))))))))))))), (x4, x5, x6, x7, x8, x9, x10, x11, x12, x13, x14, x15, x16, x17, x18, x19, x20, x21, x22, x23, x24, x25), rfl, h⟩⟩


end Go.Proofs.Ytadlnbdelkbboaa
