import Derived.Test.YtadlnbdelkbboaaRows
import Derived.Test.YtadlnbdelkbboaaFs1
import Derived.Test.YtadlnbdelkbboaaDecRaw
namespace Go.Proofs.Ytadlnbdelkbboaa
open Go.Dec
set_option maxHeartbeats 400000
set_option maxRecDepth 100000

/-- profile.Meet -/
def F15 (p0_0 : ByteArray) (p0_1 : Int) (p0_2 : Int) (p0_3 : Int) (p0_4 : Bool) (p0_5 : Int) (p0_6 : Bool) (p0_7 : Bool) (p0_8 : Int) (p0_9 : Int) (p0_10 : Int) (p0_11 : Int) (p0_12 : Sl) (p0_13 : Int) (p0_14 : Int) (p0_15 : Int) (p0_16 : Int) (p0_17 : Bool) (p0_18 : Int) (p0_19 : Int) (p0_20 : Int) (p0_21 : Int) (p1_0 : ByteArray) (p1_1 : Int) (p1_2 : Int) (p1_3 : Int) (p1_4 : Bool) (p1_5 : Int) (p1_6 : Bool) (p1_7 : Bool) (p1_8 : Int) (p1_9 : Int) (p1_10 : Int) (p1_11 : Int) (p1_12 : Sl) (p1_13 : Int) (p1_14 : Int) (p1_15 : Int) (p1_16 : Int) (p1_17 : Bool) (p1_18 : Int) (p1_19 : Int) (p1_20 : Int) (p1_21 : Int) (w0 : World) (K : T23 → World → Prop) : Prop :=
  nw 24 (A23 p0_0 p0_1 p0_2 p0_3 p0_4 p0_5 p0_6 p0_7 p0_8 p0_9 p0_10 p0_11 p0_12 p0_13 p0_14 p0_15 p0_16 p0_17 p0_18 p0_19 p0_20 p0_21) w0 fun b1 w1 =>
  nw 24 (A23 p1_0 p1_1 p1_2 p1_3 p1_4 p1_5 p1_6 p1_7 p1_8 p1_9 p1_10 p1_11 p1_12 p1_13 p1_14 p1_15 p1_16 p1_17 p1_18 p1_19 p1_20 p1_21) w1 fun b2 w2 =>
  nw 24 (A23 (ByteArray.mk #[]) 0 0 0 false 0 false false 0 0 0 0 Sl.nil 0 0 0 0 false 0 0 0 0) w2 fun b3 w3 =>
  L23 (Addr.mk b1 0 none) w3 fun x4 x5 x6 x7 x8 x9 x10 x11 x12 x13 x14 x15 x16 x17 x18 x19 x20 x21 x22 x23 x24 x25 =>
  nw 24 (A23 (ByteArray.mk #[]) 0 0 0 false 0 false false 0 0 0 0 Sl.nil 0 0 0 0 false 0 0 0 0) w3 fun b26 w4 =>
  st (Addr.mk b26 0 none) (S23 x4 x5 x6 x7 x8 x9 x10 x11 x12 x13 x14 x15 x16 x17 x18 x19 x20 x21 x22 x23 x24 x25) w4 fun w5 =>
  jn (fun (J29 : Unit → World → Prop) => tk w5 fun w6 =>
    ld (Value.int .i64) ((Addr.mk b1 0 none).add 1) w6 fun x30 =>
    ld (Value.int .i64) ((Addr.mk b2 0 none).add 1) w6 fun x31 =>
    ld (Value.int .i64) ((Addr.mk b1 0 none).add 3) w6 fun x32 =>
    ld (Value.int .i64) ((Addr.mk b2 0 none).add 3) w6 fun x33 =>
    ld (Value.int .i64) ((Addr.mk b1 0 none).add 5) w6 fun x34 =>
    ld (Value.int .i64) ((Addr.mk b2 0 none).add 5) w6 fun x35 =>
    st ((Addr.mk b26 0 none).add 1) [(Value.int .i64 (min x30 x31))] w6 fun w7 =>
    (w7.cell? ((Addr.mk b2 0 none).add 5) = some (Value.int .i64 x35)) ∧
    (w7.cell? ((Addr.mk b1 0 none).add 5) = some (Value.int .i64 x34)) ∧
    (w7.cell? ((Addr.mk b2 0 none).add 3) = some (Value.int .i64 x33)) ∧
    (w7.cell? ((Addr.mk b1 0 none).add 3) = some (Value.int .i64 x32)) ∧
    st ((Addr.mk b26 0 none).add 3) [(Value.int .i64 (min x32 x33))] w7 fun w8 =>
    (w8.cell? ((Addr.mk b2 0 none).add 5) = some (Value.int .i64 x35)) ∧
    (w8.cell? ((Addr.mk b1 0 none).add 5) = some (Value.int .i64 x34)) ∧
    st ((Addr.mk b26 0 none).add 5) [(Value.int .i64 (min x34 x35))] w8 fun w9 =>
    J29 () w9
  )
  fun _l39 w10 =>
  jn (fun (J41 : Unit → World → Prop) => tk w10 fun w11 =>
    ld Value.bool ((Addr.mk b1 0 none).add 4) w11 fun x42 =>
    cnd (x42)
      (
      ld Value.bool ((Addr.mk b2 0 none).add 4) w11 fun x44 =>
      ld Value.bool ((Addr.mk b1 0 none).add 6) w11 fun x45 =>
      cnd (x45)
        (
        ld Value.bool ((Addr.mk b2 0 none).add 6) w11 fun x47 =>
        ld Value.bool ((Addr.mk b1 0 none).add 7) w11 fun x48 =>
        cnd (x48)
          (
          ld Value.bool ((Addr.mk b2 0 none).add 7) w11 fun x50 =>
          st ((Addr.mk b26 0 none).add 4) [(Value.bool x44)] w11 fun w12 =>
          (w12.cell? ((Addr.mk b2 0 none).add 7) = some (Value.bool x50)) ∧
          (w12.cell? ((Addr.mk b1 0 none).add 7) = some (Value.bool x48)) ∧
          (w12.cell? ((Addr.mk b2 0 none).add 6) = some (Value.bool x47)) ∧
          (w12.cell? ((Addr.mk b1 0 none).add 6) = some (Value.bool x45)) ∧
          st ((Addr.mk b26 0 none).add 6) [(Value.bool x47)] w12 fun w13 =>
          (w13.cell? ((Addr.mk b2 0 none).add 7) = some (Value.bool x50)) ∧
          (w13.cell? ((Addr.mk b1 0 none).add 7) = some (Value.bool x48)) ∧
          st ((Addr.mk b26 0 none).add 7) [(Value.bool x50)] w13 fun w14 =>
          J41 () w14
          )
          (
          st ((Addr.mk b26 0 none).add 4) [(Value.bool x44)] w11 fun w15 =>
          (w15.cell? ((Addr.mk b1 0 none).add 7) = some (Value.bool x48)) ∧
          (w15.cell? ((Addr.mk b2 0 none).add 6) = some (Value.bool x47)) ∧
          (w15.cell? ((Addr.mk b1 0 none).add 6) = some (Value.bool x45)) ∧
          st ((Addr.mk b26 0 none).add 6) [(Value.bool x47)] w15 fun w16 =>
          (w16.cell? ((Addr.mk b1 0 none).add 7) = some (Value.bool x48)) ∧
          st ((Addr.mk b26 0 none).add 7) [(Value.bool false)] w16 fun w17 =>
          J41 () w17
          )
        )
        (
        ld Value.bool ((Addr.mk b1 0 none).add 7) w11 fun x57 =>
        cnd (x57)
          (
          ld Value.bool ((Addr.mk b2 0 none).add 7) w11 fun x59 =>
          st ((Addr.mk b26 0 none).add 4) [(Value.bool x44)] w11 fun w18 =>
          (w18.cell? ((Addr.mk b2 0 none).add 7) = some (Value.bool x59)) ∧
          (w18.cell? ((Addr.mk b1 0 none).add 7) = some (Value.bool x57)) ∧
          (w18.cell? ((Addr.mk b1 0 none).add 6) = some (Value.bool x45)) ∧
          st ((Addr.mk b26 0 none).add 6) [(Value.bool false)] w18 fun w19 =>
          (w19.cell? ((Addr.mk b2 0 none).add 7) = some (Value.bool x59)) ∧
          (w19.cell? ((Addr.mk b1 0 none).add 7) = some (Value.bool x57)) ∧
          st ((Addr.mk b26 0 none).add 7) [(Value.bool x59)] w19 fun w20 =>
          J41 () w20
          )
          (
          st ((Addr.mk b26 0 none).add 4) [(Value.bool x44)] w11 fun w21 =>
          (w21.cell? ((Addr.mk b1 0 none).add 7) = some (Value.bool x57)) ∧
          (w21.cell? ((Addr.mk b1 0 none).add 6) = some (Value.bool x45)) ∧
          st ((Addr.mk b26 0 none).add 6) [(Value.bool false)] w21 fun w22 =>
          (w22.cell? ((Addr.mk b1 0 none).add 7) = some (Value.bool x57)) ∧
          st ((Addr.mk b26 0 none).add 7) [(Value.bool false)] w22 fun w23 =>
          J41 () w23
          )
        )
      )
      (
      ld Value.bool ((Addr.mk b1 0 none).add 6) w11 fun x66 =>
      cnd (x66)
        (
        ld Value.bool ((Addr.mk b2 0 none).add 6) w11 fun x68 =>
        ld Value.bool ((Addr.mk b1 0 none).add 7) w11 fun x69 =>
        cnd (x69)
          (
          ld Value.bool ((Addr.mk b2 0 none).add 7) w11 fun x71 =>
          st ((Addr.mk b26 0 none).add 4) [(Value.bool false)] w11 fun w24 =>
          (w24.cell? ((Addr.mk b2 0 none).add 7) = some (Value.bool x71)) ∧
          (w24.cell? ((Addr.mk b1 0 none).add 7) = some (Value.bool x69)) ∧
          (w24.cell? ((Addr.mk b2 0 none).add 6) = some (Value.bool x68)) ∧
          (w24.cell? ((Addr.mk b1 0 none).add 6) = some (Value.bool x66)) ∧
          st ((Addr.mk b26 0 none).add 6) [(Value.bool x68)] w24 fun w25 =>
          (w25.cell? ((Addr.mk b2 0 none).add 7) = some (Value.bool x71)) ∧
          (w25.cell? ((Addr.mk b1 0 none).add 7) = some (Value.bool x69)) ∧
          st ((Addr.mk b26 0 none).add 7) [(Value.bool x71)] w25 fun w26 =>
          J41 () w26
          )
          (
          st ((Addr.mk b26 0 none).add 4) [(Value.bool false)] w11 fun w27 =>
          (w27.cell? ((Addr.mk b1 0 none).add 7) = some (Value.bool x69)) ∧
          (w27.cell? ((Addr.mk b2 0 none).add 6) = some (Value.bool x68)) ∧
          (w27.cell? ((Addr.mk b1 0 none).add 6) = some (Value.bool x66)) ∧
          st ((Addr.mk b26 0 none).add 6) [(Value.bool x68)] w27 fun w28 =>
          (w28.cell? ((Addr.mk b1 0 none).add 7) = some (Value.bool x69)) ∧
          st ((Addr.mk b26 0 none).add 7) [(Value.bool false)] w28 fun w29 =>
          J41 () w29
          )
        )
        (
        ld Value.bool ((Addr.mk b1 0 none).add 7) w11 fun x78 =>
        cnd (x78)
          (
          ld Value.bool ((Addr.mk b2 0 none).add 7) w11 fun x80 =>
          st ((Addr.mk b26 0 none).add 4) [(Value.bool false)] w11 fun w30 =>
          (w30.cell? ((Addr.mk b2 0 none).add 7) = some (Value.bool x80)) ∧
          (w30.cell? ((Addr.mk b1 0 none).add 7) = some (Value.bool x78)) ∧
          (w30.cell? ((Addr.mk b1 0 none).add 6) = some (Value.bool x66)) ∧
          st ((Addr.mk b26 0 none).add 6) [(Value.bool false)] w30 fun w31 =>
          (w31.cell? ((Addr.mk b2 0 none).add 7) = some (Value.bool x80)) ∧
          (w31.cell? ((Addr.mk b1 0 none).add 7) = some (Value.bool x78)) ∧
          st ((Addr.mk b26 0 none).add 7) [(Value.bool x80)] w31 fun w32 =>
          J41 () w32
          )
          (
          st ((Addr.mk b26 0 none).add 4) [(Value.bool false)] w11 fun w33 =>
          (w33.cell? ((Addr.mk b1 0 none).add 7) = some (Value.bool x78)) ∧
          (w33.cell? ((Addr.mk b1 0 none).add 6) = some (Value.bool x66)) ∧
          st ((Addr.mk b26 0 none).add 6) [(Value.bool false)] w33 fun w34 =>
          (w34.cell? ((Addr.mk b1 0 none).add 7) = some (Value.bool x78)) ∧
          st ((Addr.mk b26 0 none).add 7) [(Value.bool false)] w34 fun w35 =>
          J41 () w35
          )
        )
      )
  )
  fun _l87 w36 =>
  jn (fun (J89 : Unit → World → Prop) => tk w36 fun w37 =>
    ld (Value.int .i64) ((Addr.mk b1 0 none).add 8) w37 fun x90 =>
    ld (Value.int .i64) ((Addr.mk b2 0 none).add 8) w37 fun x91 =>
    ld (Value.int .i64) ((Addr.mk b1 0 none).add 9) w37 fun x92 =>
    ld (Value.int .i64) ((Addr.mk b2 0 none).add 9) w37 fun x93 =>
    ld (Value.int .i64) ((Addr.mk b1 0 none).add 16) w37 fun x94 =>
    ld (Value.int .i64) ((Addr.mk b2 0 none).add 16) w37 fun x95 =>
    st ((Addr.mk b26 0 none).add 8) [(Value.int .i64 (min x90 x91))] w37 fun w38 =>
    (w38.cell? ((Addr.mk b2 0 none).add 16) = some (Value.int .i64 x95)) ∧
    (w38.cell? ((Addr.mk b1 0 none).add 16) = some (Value.int .i64 x94)) ∧
    (w38.cell? ((Addr.mk b2 0 none).add 9) = some (Value.int .i64 x93)) ∧
    (w38.cell? ((Addr.mk b1 0 none).add 9) = some (Value.int .i64 x92)) ∧
    st ((Addr.mk b26 0 none).add 9) [(Value.int .i64 (min x92 x93))] w38 fun w39 =>
    (w39.cell? ((Addr.mk b2 0 none).add 16) = some (Value.int .i64 x95)) ∧
    (w39.cell? ((Addr.mk b1 0 none).add 16) = some (Value.int .i64 x94)) ∧
    st ((Addr.mk b26 0 none).add 16) [(Value.int .i64 (min x94 x95))] w39 fun w40 =>
    J89 () w40
  )
  fun _l99 w41 =>
  jn (fun (J101 : Unit → World → Prop) => tk w41 fun w42 =>
    ld (Value.int .i64) ((Addr.mk b1 0 none).add 10) w42 fun x102 =>
    ld (Value.int .i64) ((Addr.mk b2 0 none).add 10) w42 fun x103 =>
    ld (Value.int .i64) ((Addr.mk b1 0 none).add 11) w42 fun x104 =>
    ld (Value.int .i64) ((Addr.mk b2 0 none).add 11) w42 fun x105 =>
    st ((Addr.mk b26 0 none).add 10) [(Value.int .i64 (min x102 x103))] w42 fun w43 =>
    (w43.cell? ((Addr.mk b2 0 none).add 11) = some (Value.int .i64 x105)) ∧
    (w43.cell? ((Addr.mk b1 0 none).add 11) = some (Value.int .i64 x104)) ∧
    st ((Addr.mk b26 0 none).add 11) [(Value.int .i64 (min x104 x105))] w43 fun w44 =>
    J101 () w44
  )
  fun _l108 w45 =>
  st ((Addr.mk b26 0 none).add 12) [(Sl.v Sl.nil)] w45 fun w46 =>
  ld Sl.v ((Addr.mk b1 0 none).add 12) w46 fun x110 =>
  lp (fun (next111 : Int → World → Prop) l111 w47 =>
    cnd (decide (l111 < (x110.len : Int)))
      (
      jn (fun (J113 : Unit → World → Prop) =>
        ix x110 l111 1 fun p115 =>
        ld Value.string p115 w47 fun x116 =>
        ld Sl.v ((Addr.mk b2 0 none).add 12) w47 fun x117 =>
        callC Try.prog 27 #[(Sl.v x117), (Value.string x116)] (fun (r : Bool) => (Value.bool r)) w47 fun r118 w49 =>
        cnd (r118)
          (
          ld Sl.v ((Addr.mk b26 0 none).add 12) w49 fun x120 =>
          nw 9 #[(Value.string x116)] w49 fun b121 w50 =>
          rn Try.prog (Builtin.append_ #[22, 22] 22 #[Sl.v x120, Sl.v (⟨some ⟨b121, 0, none⟩, 1, 1⟩ : Sl)]) Sl.v w50 fun r122 w51 =>
          st ((Addr.mk b26 0 none).add 12) [(Sl.v r122)] w51 fun w52 =>
          J113 () w52
          )
          (
          J113 () w49
          )
      )
      fun _l114 w48 =>
      next111 (IntKind.i64.wrap (l111 + 1)) w48
      )
      (
      jn (fun (J124 : Unit → World → Prop) =>
        ld (Value.int .i64) ((Addr.mk b26 0 none).add 10) w47 fun x126 =>
        jp (fun J127 => cnd (decide (x126 = 0))
          (
          J127 true
          )
          (
          ld (Value.int .i64) ((Addr.mk b26 0 none).add 11) w47 fun x129 =>
          J127 (decide (x129 = 0))
          ))
        fun c130 =>
        jp (fun J131 => cnd (c130)
          (
          J131 true
          )
          (
          ld Sl.v ((Addr.mk b26 0 none).add 12) w47 fun x133 =>
          J131 (decide ((x133.len : Int) = 0))
          ))
        fun c134 =>
        cnd (c134)
          (
          st ((Addr.mk b26 0 none).add 10) [(Value.int .i64 0)] w47 fun w54 =>
          st ((Addr.mk b26 0 none).add 11) [(Value.int .i64 0)] w54 fun w55 =>
          st ((Addr.mk b26 0 none).add 12) [(Sl.v Sl.nil)] w55 fun w56 =>
          J124 () w56
          )
          (
          J124 () w47
          )
      )
      fun _l125 w53 =>
      jn (fun (J139 : Unit → World → Prop) =>
        ld (Value.int .i64) ((Addr.mk b26 0 none).add 1) w53 fun x141 =>
        cnd (decide (x141 = 0))
          (
          st ((Addr.mk b26 0 none).add 2) [(Value.int .i64 0)] w53 fun w58 =>
          J139 () w58
          )
          (
          ld (Value.int .i64) ((Addr.mk b1 0 none).add 2) w53 fun x144 =>
          cnd (decide (x144 = 0))
            (
            ld (Value.int .i64) ((Addr.mk b2 0 none).add 2) w53 fun x146 =>
            st ((Addr.mk b26 0 none).add 2) [(Value.int .i64 x146)] w53 fun w59 =>
            J139 () w59
            )
            (
            ld (Value.int .i64) ((Addr.mk b2 0 none).add 2) w53 fun x148 =>
            cnd (decide (x148 = 0))
              (
              ld (Value.int .i64) ((Addr.mk b1 0 none).add 2) w53 fun x150 =>
              st ((Addr.mk b26 0 none).add 2) [(Value.int .i64 x150)] w53 fun w60 =>
              J139 () w60
              )
              (
              ld (Value.int .i64) ((Addr.mk b1 0 none).add 2) w53 fun x152 =>
              ld (Value.int .i64) ((Addr.mk b2 0 none).add 2) w53 fun x153 =>
              st ((Addr.mk b26 0 none).add 2) [(Value.int .i64 (min x152 x153))] w53 fun w61 =>
              J139 () w61
              )
            )
          )
      )
      fun _l140 w57 =>
      L23 (Addr.mk b26 0 none) w57 fun x155 x156 x157 x158 x159 x160 x161 x162 x163 x164 x165 x166 x167 x168 x169 x170 x171 x172 x173 x174 x175 x176 =>
      st (Addr.mk b3 0 none) (S23 x155 x156 x157 x158 x159 x160 x161 x162 x163 x164 x165 x166 x167 x168 x169 x170 x171 x172 x173 x174 x175 x176) w57 fun w62 =>
      L23 (Addr.mk b3 0 none) w62 fun x178 x179 x180 x181 x182 x183 x184 x185 x186 x187 x188 x189 x190 x191 x192 x193 x194 x195 x196 x197 x198 x199 =>
      K (x178, x179, x180, x181, x182, x183, x184, x185, x186, x187, x188, x189, x190, x191, x192, x193, x194, x195, x196, x197, x198, x199) w62
      )
  ) 0 w46
set_option maxRecDepth 100000 in
theorem D15 (p0_0 : ByteArray) (p0_1 : Int) (p0_2 : Int) (p0_3 : Int) (p0_4 : Bool) (p0_5 : Int) (p0_6 : Bool) (p0_7 : Bool) (p0_8 : Int) (p0_9 : Int) (p0_10 : Int) (p0_11 : Int) (p0_12 : Sl) (p0_13 : Int) (p0_14 : Int) (p0_15 : Int) (p0_16 : Int) (p0_17 : Bool) (p0_18 : Int) (p0_19 : Int) (p0_20 : Int) (p0_21 : Int) (p1_0 : ByteArray) (p1_1 : Int) (p1_2 : Int) (p1_3 : Int) (p1_4 : Bool) (p1_5 : Int) (p1_6 : Bool) (p1_7 : Bool) (p1_8 : Int) (p1_9 : Int) (p1_10 : Int) (p1_11 : Int) (p1_12 : Sl) (p1_13 : Int) (p1_14 : Int) (p1_15 : Int) (p1_16 : Int) (p1_17 : Bool) (p1_18 : Int) (p1_19 : Int) (p1_20 : Int) (p1_21 : Int) (w0 : World) (K : T23 → World → Prop) (h : F15 p0_0 p0_1 p0_2 p0_3 p0_4 p0_5 p0_6 p0_7 p0_8 p0_9 p0_10 p0_11 p0_12 p0_13 p0_14 p0_15 p0_16 p0_17 p0_18 p0_19 p0_20 p0_21 p1_0 p1_1 p1_2 p1_3 p1_4 p1_5 p1_6 p1_7 p1_8 p1_9 p1_10 p1_11 p1_12 p1_13 p1_14 p1_15 p1_16 p1_17 p1_18 p1_19 p1_20 p1_21 w0 K) : callC Try.prog 15 #[(V23 p0_0 p0_1 p0_2 p0_3 p0_4 p0_5 p0_6 p0_7 p0_8 p0_9 p0_10 p0_11 p0_12 p0_13 p0_14 p0_15 p0_16 p0_17 p0_18 p0_19 p0_20 p0_21), (V23 p1_0 p1_1 p1_2 p1_3 p1_4 p1_5 p1_6 p1_7 p1_8 p1_9 p1_10 p1_11 p1_12 p1_13 p1_14 p1_15 p1_16 p1_17 p1_18 p1_19 p1_20 p1_21)] E23 w0 K := by
  unfold F15 at h
  refine calls_of_wpC Try.func15 rfl 140 rfl (by simp) ?_
  intro ρ hρ
  have e0 : ρ 0 = (V23 p0_0 p0_1 p0_2 p0_3 p0_4 p0_5 p0_6 p0_7 p0_8 p0_9 p0_10 p0_11 p0_12 p0_13 p0_14 p0_15 p0_16 p0_17 p0_18 p0_19 p0_20 p0_21) := hρ 0
  have e1 : ρ 1 = (V23 p1_0 p1_1 p1_2 p1_3 p1_4 p1_5 p1_6 p1_7 p1_8 p1_9 p1_10 p1_11 p1_12 p1_13 p1_14 p1_15 p1_16 p1_17 p1_18 p1_19 p1_20 p1_21) := hρ 1
  clear hρ
  refine wpC_seq ?_
  refine wpC_region ?_
  obtain ⟨b1, hb1⟩ : ∃ u, u = w0.heap.size := ⟨_, rfl⟩
  obtain ⟨w1, hw1⟩ : ∃ u, u = w0.alloc (.cells (A23 p0_0 p0_1 p0_2 p0_3 p0_4 p0_5 p0_6 p0_7 p0_8 p0_9 p0_10 p0_11 p0_12 p0_13 p0_14 p0_15 p0_16 p0_17 p0_18 p0_19 p0_20 p0_21) 24) := ⟨_, rfl⟩
  replace h := h b1 w1 hb1 hw1
  refine wpR_val (v := (Value.pointer (some (Addr.mk b1 0 none)))) (w' := w1) rfl rfl rfl ((x_box (v := (V23 p0_0 p0_1 p0_2 p0_3 p0_4 p0_5 p0_6 p0_7 p0_8 p0_9 p0_10 p0_11 p0_12 p0_13 p0_14 p0_15 p0_16 p0_17 p0_18 p0_19 p0_20 p0_21)) rfl e0).trans (by rw [hb1, hw1]; rfl)) ?_
  obtain ⟨b2, hb2⟩ : ∃ u, u = w1.heap.size := ⟨_, rfl⟩
  obtain ⟨w2, hw2⟩ : ∃ u, u = w1.alloc (.cells (A23 p1_0 p1_1 p1_2 p1_3 p1_4 p1_5 p1_6 p1_7 p1_8 p1_9 p1_10 p1_11 p1_12 p1_13 p1_14 p1_15 p1_16 p1_17 p1_18 p1_19 p1_20 p1_21) 24) := ⟨_, rfl⟩
  replace h := h b2 w2 hb2 hw2
  refine wpR_val (v := (Value.pointer (some (Addr.mk b2 0 none)))) (w' := w2) rfl rfl rfl ((x_box (v := (V23 p1_0 p1_1 p1_2 p1_3 p1_4 p1_5 p1_6 p1_7 p1_8 p1_9 p1_10 p1_11 p1_12 p1_13 p1_14 p1_15 p1_16 p1_17 p1_18 p1_19 p1_20 p1_21)) rfl e1).trans (by rw [hb2, hw2]; rfl)) ?_
  obtain ⟨b3, hb3⟩ : ∃ u, u = w2.heap.size := ⟨_, rfl⟩
  obtain ⟨w3, hw3⟩ : ∃ u, u = w2.alloc (.cells (A23 (ByteArray.mk #[]) 0 0 0 false 0 false false 0 0 0 0 Sl.nil 0 0 0 0 false 0 0 0 0) 24) := ⟨_, rfl⟩
  replace h := h b3 w3 hb3 hw3
  refine wpR_val (v := (Value.pointer (some (Addr.mk b3 0 none)))) (w' := w3) rfl rfl rfl ((x_alloc rfl ZV_24).trans (by rw [hb3, hw3]; rfl)) ?_
  refine wpR_nil ?_
  refine wpC_seq ?_
  refine wpC_cut (fun ρ => ρ 2 = (Value.pointer (some (Addr.mk b1 0 none))) ∧ ρ 3 = (Value.pointer (some (Addr.mk b2 0 none))) ∧ ρ 4 = (Value.pointer (some (Addr.mk b3 0 none))) ∧ True) ⟨rfl, rfl, rfl, trivial⟩ ?_
  rintro ρ ⟨e2, e3, e4, -⟩
  refine wpC_region ?_
  obtain ⟨x4, q4, x5, q5, x6, q6, x7, q7, x8, q8, x9, q9, x10, q10, x11, q11, x12, q12, x13, q13, x14, q14, x15, q15, x16, q16, x17, q17, x18, q18, x19, q19, x20, q20, x21, q21, x22, q22, x23, q23, x24, q24, x25, q25, h⟩ := h
  refine wpR_val (v := (V23 x4 x5 x6 x7 x8 x9 x10 x11 x12 x13 x14 x15 x16 x17 x18 x19 x20 x21 x22 x23 x24 x25)) (w' := w3) rfl rfl rfl (x_loadN (S23 x4 x5 x6 x7 x8 x9 x10 x11 x12 x13 x14 x15 x16 x17 x18 x19 x20 x21 x22 x23 x24 x25) rfl e2 SH_24 (K23 ⟨q4, q5, q6, q7, q8, q9, q10, q11, q12, q13, q14, q15, q16, q17, q18, q19, q20, q21, q22, q23, q24, q25⟩)) ?_
  obtain ⟨b26, hb26⟩ : ∃ u, u = w3.heap.size := ⟨_, rfl⟩
  obtain ⟨w4, hw26⟩ : ∃ u, u = w3.alloc (.cells (A23 (ByteArray.mk #[]) 0 0 0 false 0 false false 0 0 0 0 Sl.nil 0 0 0 0 false 0 0 0 0) 24) := ⟨_, rfl⟩
  replace h := h b26 w4 hb26 hw26
  refine wpR_val (v := (Value.pointer (some (Addr.mk b26 0 none)))) (w' := w4) rfl rfl rfl ((x_alloc rfl ZV_24).trans (by rw [hb26, hw26]; rfl)) ?_
  obtain ⟨q27, h⟩ := h
  obtain ⟨w5, hw27⟩ : ∃ u, u = setAll w4 (Addr.mk b26 0 none) (S23 x4 x5 x6 x7 x8 x9 x10 x11 x12 x13 x14 x15 x16 x17 x18 x19 x20 x21 x22 x23 x24 x25) 0 := ⟨_, rfl⟩
  replace h := h w5 hw27
  refine wpR_skp (w' := w5) rfl rfl ((x_store (v := (V23 x4 x5 x6 x7 x8 x9 x10 x11 x12 x13 x14 x15 x16 x17 x18 x19 x20 x21 x22 x23 x24 x25)) rfl rfl rfl SZ_24 (ones (by rfl)) q27).trans (by rw [hw27]; rfl)) ?_
  refine wpR_nil ?_
  refine wpC_seq ?_
  refine wpC_cut (fun ρ => ρ 2 = (Value.pointer (some (Addr.mk b1 0 none))) ∧ ρ 3 = (Value.pointer (some (Addr.mk b2 0 none))) ∧ ρ 4 = (Value.pointer (some (Addr.mk b3 0 none))) ∧ ρ 5 = (Value.pointer (some (Addr.mk b26 0 none))) ∧ True) ⟨e2, e3, e4, rfl, trivial⟩ ?_
  rintro ρ ⟨e2, e3, e4, e5, -⟩
  obtain ⟨J29, h, hk⟩ := h
  refine wpC_drawJ (by kernel_rfl) (fun (x : Unit) ρ => ρ 2 = (Value.pointer (some (Addr.mk b1 0 none))) ∧ ρ 3 = (Value.pointer (some (Addr.mk b2 0 none))) ∧ ρ 4 = (Value.pointer (some (Addr.mk b3 0 none))) ∧ ρ 5 = (Value.pointer (some (Addr.mk b26 0 none))) ∧ True) J29 ?_ ?_
  · clear hk
    unfold tk at h
    generalize w5.drew = w6 at h ⊢
    refine wpD_take (v := (Value.pointer (some ((Addr.mk b1 0 none).add 1)))) 0 (fun _ => True) rfl (by kernel_rfl) (by kernel_rfl) (by kernel_rfl) rfl rfl rfl trivial (fun w _ => (x_fieldAddr rfl e2 FA_24_1)) ?_
    obtain ⟨x30, q30, h⟩ := h
    refine wpD_take (v := (Value.int .i64 x30)) 1 (fun w => w.cell? ((Addr.mk b1 0 none).add 1) = some (Value.int .i64 x30)) rfl (by kernel_rfl) (by kernel_rfl) (by kernel_rfl) rfl rfl rfl q30 (fun w q30 => (x_load1 rfl rfl SH_3 q30)) ?_
    refine wpD_take (v := (Value.pointer (some ((Addr.mk b2 0 none).add 1)))) 2 (fun _ => True) rfl (by kernel_rfl) (by kernel_rfl) (by kernel_rfl) rfl rfl rfl trivial (fun w _ => (x_fieldAddr rfl e3 FA_24_1)) ?_
    obtain ⟨x31, q31, h⟩ := h
    refine wpD_take (v := (Value.int .i64 x31)) 3 (fun w => w.cell? ((Addr.mk b2 0 none).add 1) = some (Value.int .i64 x31)) rfl (by kernel_rfl) (by kernel_rfl) (by kernel_rfl) rfl rfl rfl q31 (fun w q31 => (x_load1 rfl rfl SH_3 q31)) ?_
    refine wpD_take (v := (Value.int .i64 (min x30 x31))) 4 (fun _ => True) rfl (by kernel_rfl) (by kernel_rfl) (by kernel_rfl) rfl rfl rfl trivial (fun w _ => (x_min rfl rfl rfl)) ?_
    refine wpD_take (v := (Value.pointer (some ((Addr.mk b1 0 none).add 3)))) 5 (fun _ => True) rfl (by kernel_rfl) (by kernel_rfl) (by kernel_rfl) rfl rfl rfl trivial (fun w _ => (x_fieldAddr rfl e2 FA_24_3)) ?_
    obtain ⟨x32, q32, h⟩ := h
    refine wpD_take (v := (Value.int .i64 x32)) 6 (fun w => w.cell? ((Addr.mk b1 0 none).add 3) = some (Value.int .i64 x32)) rfl (by kernel_rfl) (by kernel_rfl) (by kernel_rfl) rfl rfl rfl q32 (fun w q32 => (x_load1 rfl rfl SH_3 q32)) ?_
    refine wpD_take (v := (Value.pointer (some ((Addr.mk b2 0 none).add 3)))) 7 (fun _ => True) rfl (by kernel_rfl) (by kernel_rfl) (by kernel_rfl) rfl rfl rfl trivial (fun w _ => (x_fieldAddr rfl e3 FA_24_3)) ?_
    obtain ⟨x33, q33, h⟩ := h
    refine wpD_take (v := (Value.int .i64 x33)) 8 (fun w => w.cell? ((Addr.mk b2 0 none).add 3) = some (Value.int .i64 x33)) rfl (by kernel_rfl) (by kernel_rfl) (by kernel_rfl) rfl rfl rfl q33 (fun w q33 => (x_load1 rfl rfl SH_3 q33)) ?_
    refine wpD_take (v := (Value.int .i64 (min x32 x33))) 9 (fun _ => True) rfl (by kernel_rfl) (by kernel_rfl) (by kernel_rfl) rfl rfl rfl trivial (fun w _ => (x_min rfl rfl rfl)) ?_
    refine wpD_take (v := (Value.pointer (some ((Addr.mk b1 0 none).add 5)))) 10 (fun _ => True) rfl (by kernel_rfl) (by kernel_rfl) (by kernel_rfl) rfl rfl rfl trivial (fun w _ => (x_fieldAddr rfl e2 FA_24_5)) ?_
    obtain ⟨x34, q34, h⟩ := h
    refine wpD_take (v := (Value.int .i64 x34)) 11 (fun w => w.cell? ((Addr.mk b1 0 none).add 5) = some (Value.int .i64 x34)) rfl (by kernel_rfl) (by kernel_rfl) (by kernel_rfl) rfl rfl rfl q34 (fun w q34 => (x_load1 rfl rfl SH_3 q34)) ?_
    refine wpD_take (v := (Value.pointer (some ((Addr.mk b2 0 none).add 5)))) 12 (fun _ => True) rfl (by kernel_rfl) (by kernel_rfl) (by kernel_rfl) rfl rfl rfl trivial (fun w _ => (x_fieldAddr rfl e3 FA_24_5)) ?_
    obtain ⟨x35, q35, h⟩ := h
    refine wpD_take (v := (Value.int .i64 x35)) 13 (fun w => w.cell? ((Addr.mk b2 0 none).add 5) = some (Value.int .i64 x35)) rfl (by kernel_rfl) (by kernel_rfl) (by kernel_rfl) rfl rfl rfl q35 (fun w q35 => (x_load1 rfl rfl SH_3 q35)) ?_
    refine wpD_take (v := (Value.int .i64 (min x34 x35))) 14 (fun _ => True) rfl (by kernel_rfl) (by kernel_rfl) (by kernel_rfl) rfl rfl rfl trivial (fun w _ => (x_min rfl rfl rfl)) ?_
    refine wpD_take (v := (Value.pointer (some ((Addr.mk b26 0 none).add 1)))) 15 (fun _ => True) rfl (by kernel_rfl) (by kernel_rfl) (by kernel_rfl) rfl rfl rfl trivial (fun w _ => (x_fieldAddr rfl e5 FA_24_1)) ?_
    refine wpD_all (rs := [16]) (by kernel_rfl) (by simp) (allD_cons ?_ allD_nil)
    obtain ⟨q36, h⟩ := h
    obtain ⟨w7, hw36⟩ : ∃ u, u = setAll w6 ((Addr.mk b26 0 none).add 1) [(Value.int .i64 (min x30 x31))] 0 := ⟨_, rfl⟩
    replace h := h w7 hw36
    obtain ⟨o13, h⟩ := h
    obtain ⟨o11, h⟩ := h
    obtain ⟨o8, h⟩ := h
    obtain ⟨o6, h⟩ := h
    refine stepD_skpL (L' := [(14, fun _ => True), (13, fun w => w.cell? ((Addr.mk b2 0 none).add 5) = some (Value.int .i64 x35)), (12, fun _ => True), (11, fun w => w.cell? ((Addr.mk b1 0 none).add 5) = some (Value.int .i64 x34)), (10, fun _ => True), (9, fun _ => True), (8, fun w => w.cell? ((Addr.mk b2 0 none).add 3) = some (Value.int .i64 x33)), (7, fun _ => True), (6, fun w => w.cell? ((Addr.mk b1 0 none).add 3) = some (Value.int .i64 x32)), (5, fun _ => True)]) (w' := w7) rfl rfl rfl ((x_store (v := (Value.int .i64 (min x30 x31))) rfl rfl rfl SZ_3 (ones (by rfl)) q36).trans (by rw [hw36]; rfl)) (by kernel_rfl) (held_cons trivial (held_cons o13 (held_cons trivial (held_cons o11 (held_cons trivial (held_cons trivial (held_cons o8 (held_cons trivial (held_cons o6 (held_cons trivial held_nil)))))))))) ?_
    refine wpD_take (v := (Value.pointer (some ((Addr.mk b26 0 none).add 3)))) 17 (fun _ => True) rfl (by kernel_rfl) (by kernel_rfl) (by kernel_rfl) rfl rfl rfl trivial (fun w _ => (x_fieldAddr rfl e5 FA_24_3)) ?_
    refine wpD_all (rs := [18]) (by kernel_rfl) (by simp) (allD_cons ?_ allD_nil)
    obtain ⟨q37, h⟩ := h
    obtain ⟨w8, hw37⟩ : ∃ u, u = setAll w7 ((Addr.mk b26 0 none).add 3) [(Value.int .i64 (min x32 x33))] 0 := ⟨_, rfl⟩
    replace h := h w8 hw37
    obtain ⟨o13, h⟩ := h
    obtain ⟨o11, h⟩ := h
    refine stepD_skpL (L' := [(14, fun _ => True), (13, fun w => w.cell? ((Addr.mk b2 0 none).add 5) = some (Value.int .i64 x35)), (12, fun _ => True), (11, fun w => w.cell? ((Addr.mk b1 0 none).add 5) = some (Value.int .i64 x34)), (10, fun _ => True)]) (w' := w8) rfl rfl rfl ((x_store (v := (Value.int .i64 (min x32 x33))) rfl rfl rfl SZ_3 (ones (by rfl)) q37).trans (by rw [hw37]; rfl)) (by kernel_rfl) (held_cons trivial (held_cons o13 (held_cons trivial (held_cons o11 (held_cons trivial held_nil))))) ?_
    refine wpD_take (v := (Value.pointer (some ((Addr.mk b26 0 none).add 5)))) 19 (fun _ => True) rfl (by kernel_rfl) (by kernel_rfl) (by kernel_rfl) rfl rfl rfl trivial (fun w _ => (x_fieldAddr rfl e5 FA_24_5)) ?_
    refine wpD_all (rs := [20]) (by kernel_rfl) (by simp) (allD_cons ?_ allD_nil)
    obtain ⟨q38, h⟩ := h
    obtain ⟨w9, hw38⟩ : ∃ u, u = setAll w8 ((Addr.mk b26 0 none).add 5) [(Value.int .i64 (min x34 x35))] 0 := ⟨_, rfl⟩
    replace h := h w9 hw38
    refine stepD_skpL (L' := []) (w' := w9) rfl rfl rfl ((x_store (v := (Value.int .i64 (min x34 x35))) rfl rfl rfl SZ_3 (ones (by rfl)) q38).trans (by rw [hw38]; rfl)) (by kernel_rfl) held_nil ?_
    exact wpD_done (by kernel_rfl) ⟨(), ⟨e2, e3, e4, e5, trivial⟩, h⟩
  clear h
  rintro l39 ρ w10 ⟨e2, e3, e4, e5, -⟩ h
  replace h := hk l39 w10 h
  clear hk
  refine wpC_seq ?_
  obtain ⟨J41, h, hk⟩ := h
  refine wpC_drawJ (by kernel_rfl) (fun (x : Unit) ρ => ρ 2 = (Value.pointer (some (Addr.mk b1 0 none))) ∧ ρ 3 = (Value.pointer (some (Addr.mk b2 0 none))) ∧ ρ 4 = (Value.pointer (some (Addr.mk b3 0 none))) ∧ ρ 5 = (Value.pointer (some (Addr.mk b26 0 none))) ∧ True) J41 ?_ ?_
  · clear hk
    unfold tk at h
    generalize w10.drew = w11 at h ⊢
    refine wpD_take (v := (Value.pointer (some ((Addr.mk b1 0 none).add 4)))) 0 (fun _ => True) rfl (by kernel_rfl) (by kernel_rfl) (by kernel_rfl) rfl rfl rfl trivial (fun w _ => (x_fieldAddr rfl e2 FA_24_4)) ?_
    obtain ⟨x42, q42, h⟩ := h
    refine wpD_take (v := (Value.bool x42)) 1 (fun w => w.cell? ((Addr.mk b1 0 none).add 4) = some (Value.bool x42)) rfl (by kernel_rfl) (by kernel_rfl) (by kernel_rfl) rfl rfl rfl q42 (fun w q42 => (x_load1 rfl rfl SH_4 q42)) ?_
    refine wpD_take (v := (Value.bool x42)) 2 (fun _ => True) rfl (by kernel_rfl) (by kernel_rfl) (by kernel_rfl) rfl rfl rfl trivial (fun w _ => (x_move (v := (Value.bool x42)) rfl rfl)) ?_
    rcases Bool.eq_false_or_eq_true (x42) with hc43 | hc43
    · replace h := h.1 hc43
      refine wpD_take (v := (Value.pointer (some ((Addr.mk b2 0 none).add 4)))) 3 (fun _ => True) rfl (by kernel_rfl) (by kernel_rfl) (by kernel_rfl) (wantG rfl rfl rfl hc43) rfl rfl trivial (fun w _ => (x_fieldAddr rfl e3 FA_24_4)) ?_
      obtain ⟨x44, q44, h⟩ := h
      refine wpD_take (v := (Value.bool x44)) 4 (fun w => w.cell? ((Addr.mk b2 0 none).add 4) = some (Value.bool x44)) rfl (by kernel_rfl) (by kernel_rfl) (by kernel_rfl) (wantG rfl rfl rfl hc43) rfl rfl q44 (fun w q44 => (x_load1 rfl rfl SH_4 q44)) ?_
      refine wpD_take (v := (Value.bool x44)) 5 (fun _ => True) rfl (by kernel_rfl) (by kernel_rfl) (by kernel_rfl) rfl rfl rfl trivial (fun w _ => (x_pickT (v := (Value.bool x44)) rfl rfl hc43 rfl)) ?_
      refine wpD_take (v := (Value.pointer (some ((Addr.mk b1 0 none).add 6)))) 6 (fun _ => True) rfl (by kernel_rfl) (by kernel_rfl) (by kernel_rfl) rfl rfl rfl trivial (fun w _ => (x_fieldAddr rfl e2 FA_24_6)) ?_
      obtain ⟨x45, q45, h⟩ := h
      refine wpD_take (v := (Value.bool x45)) 7 (fun w => w.cell? ((Addr.mk b1 0 none).add 6) = some (Value.bool x45)) rfl (by kernel_rfl) (by kernel_rfl) (by kernel_rfl) rfl rfl rfl q45 (fun w q45 => (x_load1 rfl rfl SH_4 q45)) ?_
      refine wpD_take (v := (Value.bool x45)) 8 (fun _ => True) rfl (by kernel_rfl) (by kernel_rfl) (by kernel_rfl) rfl rfl rfl trivial (fun w _ => (x_move (v := (Value.bool x45)) rfl rfl)) ?_
      rcases Bool.eq_false_or_eq_true (x45) with hc46 | hc46
      · replace h := h.1 hc46
        refine wpD_take (v := (Value.pointer (some ((Addr.mk b2 0 none).add 6)))) 9 (fun _ => True) rfl (by kernel_rfl) (by kernel_rfl) (by kernel_rfl) (wantG rfl rfl rfl hc46) rfl rfl trivial (fun w _ => (x_fieldAddr rfl e3 FA_24_6)) ?_
        obtain ⟨x47, q47, h⟩ := h
        refine wpD_take (v := (Value.bool x47)) 10 (fun w => w.cell? ((Addr.mk b2 0 none).add 6) = some (Value.bool x47)) rfl (by kernel_rfl) (by kernel_rfl) (by kernel_rfl) (wantG rfl rfl rfl hc46) rfl rfl q47 (fun w q47 => (x_load1 rfl rfl SH_4 q47)) ?_
        refine wpD_take (v := (Value.bool x47)) 11 (fun _ => True) rfl (by kernel_rfl) (by kernel_rfl) (by kernel_rfl) rfl rfl rfl trivial (fun w _ => (x_pickT (v := (Value.bool x47)) rfl rfl hc46 rfl)) ?_
        refine wpD_take (v := (Value.pointer (some ((Addr.mk b1 0 none).add 7)))) 12 (fun _ => True) rfl (by kernel_rfl) (by kernel_rfl) (by kernel_rfl) rfl rfl rfl trivial (fun w _ => (x_fieldAddr rfl e2 FA_24_7)) ?_
        obtain ⟨x48, q48, h⟩ := h
        refine wpD_take (v := (Value.bool x48)) 13 (fun w => w.cell? ((Addr.mk b1 0 none).add 7) = some (Value.bool x48)) rfl (by kernel_rfl) (by kernel_rfl) (by kernel_rfl) rfl rfl rfl q48 (fun w q48 => (x_load1 rfl rfl SH_4 q48)) ?_
        refine wpD_take (v := (Value.bool x48)) 14 (fun _ => True) rfl (by kernel_rfl) (by kernel_rfl) (by kernel_rfl) rfl rfl rfl trivial (fun w _ => (x_move (v := (Value.bool x48)) rfl rfl)) ?_
        rcases Bool.eq_false_or_eq_true (x48) with hc49 | hc49
        · replace h := h.1 hc49
          refine wpD_take (v := (Value.pointer (some ((Addr.mk b2 0 none).add 7)))) 15 (fun _ => True) rfl (by kernel_rfl) (by kernel_rfl) (by kernel_rfl) (wantG rfl rfl rfl hc49) rfl rfl trivial (fun w _ => (x_fieldAddr rfl e3 FA_24_7)) ?_
          obtain ⟨x50, q50, h⟩ := h
          refine wpD_take (v := (Value.bool x50)) 16 (fun w => w.cell? ((Addr.mk b2 0 none).add 7) = some (Value.bool x50)) rfl (by kernel_rfl) (by kernel_rfl) (by kernel_rfl) (wantG rfl rfl rfl hc49) rfl rfl q50 (fun w q50 => (x_load1 rfl rfl SH_4 q50)) ?_
          refine wpD_take (v := (Value.bool x50)) 17 (fun _ => True) rfl (by kernel_rfl) (by kernel_rfl) (by kernel_rfl) rfl rfl rfl trivial (fun w _ => (x_pickT (v := (Value.bool x50)) rfl rfl hc49 rfl)) ?_
          refine wpD_take (v := (Value.pointer (some ((Addr.mk b26 0 none).add 4)))) 18 (fun _ => True) rfl (by kernel_rfl) (by kernel_rfl) (by kernel_rfl) rfl rfl rfl trivial (fun w _ => (x_fieldAddr rfl e5 FA_24_4)) ?_
          refine wpD_all (rs := [19]) (by kernel_rfl) (by simp) (allD_cons ?_ allD_nil)
          obtain ⟨q51, h⟩ := h
          obtain ⟨w12, hw51⟩ : ∃ u, u = setAll w11 ((Addr.mk b26 0 none).add 4) [(Value.bool x44)] 0 := ⟨_, rfl⟩
          replace h := h w12 hw51
          obtain ⟨o16, h⟩ := h
          obtain ⟨o13, h⟩ := h
          obtain ⟨o10, h⟩ := h
          obtain ⟨o7, h⟩ := h
          refine stepD_skpL (L' := [(17, fun _ => True), (16, fun w => w.cell? ((Addr.mk b2 0 none).add 7) = some (Value.bool x50)), (15, fun _ => True), (13, fun w => w.cell? ((Addr.mk b1 0 none).add 7) = some (Value.bool x48)), (12, fun _ => True), (11, fun _ => True), (10, fun w => w.cell? ((Addr.mk b2 0 none).add 6) = some (Value.bool x47)), (9, fun _ => True), (8, fun _ => True), (7, fun w => w.cell? ((Addr.mk b1 0 none).add 6) = some (Value.bool x45)), (6, fun _ => True)]) (w' := w12) rfl rfl rfl ((x_store (v := (Value.bool x44)) rfl rfl rfl SZ_4 (ones (by rfl)) q51).trans (by rw [hw51]; rfl)) (by kernel_rfl) (held_cons trivial (held_cons o16 (held_cons trivial (held_cons o13 (held_cons trivial (held_cons trivial (held_cons o10 (held_cons trivial (held_cons trivial (held_cons o7 (held_cons trivial held_nil))))))))))) ?_
          refine wpD_take (v := (Value.pointer (some ((Addr.mk b26 0 none).add 6)))) 20 (fun _ => True) rfl (by kernel_rfl) (by kernel_rfl) (by kernel_rfl) rfl rfl rfl trivial (fun w _ => (x_fieldAddr rfl e5 FA_24_6)) ?_
          refine wpD_all (rs := [21]) (by kernel_rfl) (by simp) (allD_cons ?_ allD_nil)
          obtain ⟨q52, h⟩ := h
          obtain ⟨w13, hw52⟩ : ∃ u, u = setAll w12 ((Addr.mk b26 0 none).add 6) [(Value.bool x47)] 0 := ⟨_, rfl⟩
          replace h := h w13 hw52
          obtain ⟨o16, h⟩ := h
          obtain ⟨o13, h⟩ := h
          refine stepD_skpL (L' := [(17, fun _ => True), (16, fun w => w.cell? ((Addr.mk b2 0 none).add 7) = some (Value.bool x50)), (15, fun _ => True), (13, fun w => w.cell? ((Addr.mk b1 0 none).add 7) = some (Value.bool x48)), (12, fun _ => True)]) (w' := w13) rfl rfl rfl ((x_store (v := (Value.bool x47)) rfl rfl rfl SZ_4 (ones (by rfl)) q52).trans (by rw [hw52]; rfl)) (by kernel_rfl) (held_cons trivial (held_cons o16 (held_cons trivial (held_cons o13 (held_cons trivial held_nil))))) ?_
          refine wpD_take (v := (Value.pointer (some ((Addr.mk b26 0 none).add 7)))) 22 (fun _ => True) rfl (by kernel_rfl) (by kernel_rfl) (by kernel_rfl) rfl rfl rfl trivial (fun w _ => (x_fieldAddr rfl e5 FA_24_7)) ?_
          refine wpD_all (rs := [23]) (by kernel_rfl) (by simp) (allD_cons ?_ allD_nil)
          obtain ⟨q53, h⟩ := h
          obtain ⟨w14, hw53⟩ : ∃ u, u = setAll w13 ((Addr.mk b26 0 none).add 7) [(Value.bool x50)] 0 := ⟨_, rfl⟩
          replace h := h w14 hw53
          refine stepD_skpL (L' := []) (w' := w14) rfl rfl rfl ((x_store (v := (Value.bool x50)) rfl rfl rfl SZ_4 (ones (by rfl)) q53).trans (by rw [hw53]; rfl)) (by kernel_rfl) held_nil ?_
          exact wpD_done (by kernel_rfl) ⟨(), ⟨e2, e3, e4, e5, trivial⟩, h⟩
        · replace h := h.2 hc49
          refine wpD_pass 15 rfl (by kernel_rfl) (by kernel_rfl) (by kernel_rfl) (wantN rfl rfl rfl hc49) rfl rfl ?_
          refine wpD_pass 16 rfl (by kernel_rfl) (by kernel_rfl) (by kernel_rfl) (wantN rfl rfl rfl hc49) rfl rfl ?_
          refine wpD_take (v := (Value.bool false)) 17 (fun _ => True) rfl (by kernel_rfl) (by kernel_rfl) (by kernel_rfl) rfl rfl rfl trivial (fun w _ => (x_pickF (v := (Value.bool false)) rfl rfl hc49 rfl)) ?_
          refine wpD_take (v := (Value.pointer (some ((Addr.mk b26 0 none).add 4)))) 18 (fun _ => True) rfl (by kernel_rfl) (by kernel_rfl) (by kernel_rfl) rfl rfl rfl trivial (fun w _ => (x_fieldAddr rfl e5 FA_24_4)) ?_
          refine wpD_all (rs := [19]) (by kernel_rfl) (by simp) (allD_cons ?_ allD_nil)
          obtain ⟨q54, h⟩ := h
          obtain ⟨w15, hw54⟩ : ∃ u, u = setAll w11 ((Addr.mk b26 0 none).add 4) [(Value.bool x44)] 0 := ⟨_, rfl⟩
          replace h := h w15 hw54
          obtain ⟨o13, h⟩ := h
          obtain ⟨o10, h⟩ := h
          obtain ⟨o7, h⟩ := h
          refine stepD_skpL (L' := [(17, fun _ => True), (16, fun _ => True), (15, fun _ => True), (13, fun w => w.cell? ((Addr.mk b1 0 none).add 7) = some (Value.bool x48)), (12, fun _ => True), (11, fun _ => True), (10, fun w => w.cell? ((Addr.mk b2 0 none).add 6) = some (Value.bool x47)), (9, fun _ => True), (8, fun _ => True), (7, fun w => w.cell? ((Addr.mk b1 0 none).add 6) = some (Value.bool x45)), (6, fun _ => True)]) (w' := w15) rfl rfl rfl ((x_store (v := (Value.bool x44)) rfl rfl rfl SZ_4 (ones (by rfl)) q54).trans (by rw [hw54]; rfl)) (by kernel_rfl) (held_cons trivial (held_cons trivial (held_cons trivial (held_cons o13 (held_cons trivial (held_cons trivial (held_cons o10 (held_cons trivial (held_cons trivial (held_cons o7 (held_cons trivial held_nil))))))))))) ?_
          refine wpD_take (v := (Value.pointer (some ((Addr.mk b26 0 none).add 6)))) 20 (fun _ => True) rfl (by kernel_rfl) (by kernel_rfl) (by kernel_rfl) rfl rfl rfl trivial (fun w _ => (x_fieldAddr rfl e5 FA_24_6)) ?_
          refine wpD_all (rs := [21]) (by kernel_rfl) (by simp) (allD_cons ?_ allD_nil)
          obtain ⟨q55, h⟩ := h
          obtain ⟨w16, hw55⟩ : ∃ u, u = setAll w15 ((Addr.mk b26 0 none).add 6) [(Value.bool x47)] 0 := ⟨_, rfl⟩
          replace h := h w16 hw55
          obtain ⟨o13, h⟩ := h
          refine stepD_skpL (L' := [(17, fun _ => True), (16, fun _ => True), (15, fun _ => True), (13, fun w => w.cell? ((Addr.mk b1 0 none).add 7) = some (Value.bool x48)), (12, fun _ => True)]) (w' := w16) rfl rfl rfl ((x_store (v := (Value.bool x47)) rfl rfl rfl SZ_4 (ones (by rfl)) q55).trans (by rw [hw55]; rfl)) (by kernel_rfl) (held_cons trivial (held_cons trivial (held_cons trivial (held_cons o13 (held_cons trivial held_nil))))) ?_
          refine wpD_take (v := (Value.pointer (some ((Addr.mk b26 0 none).add 7)))) 22 (fun _ => True) rfl (by kernel_rfl) (by kernel_rfl) (by kernel_rfl) rfl rfl rfl trivial (fun w _ => (x_fieldAddr rfl e5 FA_24_7)) ?_
          refine wpD_all (rs := [23]) (by kernel_rfl) (by simp) (allD_cons ?_ allD_nil)
          obtain ⟨q56, h⟩ := h
          obtain ⟨w17, hw56⟩ : ∃ u, u = setAll w16 ((Addr.mk b26 0 none).add 7) [(Value.bool false)] 0 := ⟨_, rfl⟩
          replace h := h w17 hw56
          refine stepD_skpL (L' := []) (w' := w17) rfl rfl rfl ((x_store (v := (Value.bool false)) rfl rfl rfl SZ_4 (ones (by rfl)) q56).trans (by rw [hw56]; rfl)) (by kernel_rfl) held_nil ?_
          exact wpD_done (by kernel_rfl) ⟨(), ⟨e2, e3, e4, e5, trivial⟩, h⟩
      · replace h := h.2 hc46
        refine wpD_pass 9 rfl (by kernel_rfl) (by kernel_rfl) (by kernel_rfl) (wantN rfl rfl rfl hc46) rfl rfl ?_
        refine wpD_pass 10 rfl (by kernel_rfl) (by kernel_rfl) (by kernel_rfl) (wantN rfl rfl rfl hc46) rfl rfl ?_
        refine wpD_take (v := (Value.bool false)) 11 (fun _ => True) rfl (by kernel_rfl) (by kernel_rfl) (by kernel_rfl) rfl rfl rfl trivial (fun w _ => (x_pickF (v := (Value.bool false)) rfl rfl hc46 rfl)) ?_
        refine wpD_take (v := (Value.pointer (some ((Addr.mk b1 0 none).add 7)))) 12 (fun _ => True) rfl (by kernel_rfl) (by kernel_rfl) (by kernel_rfl) rfl rfl rfl trivial (fun w _ => (x_fieldAddr rfl e2 FA_24_7)) ?_
        obtain ⟨x57, q57, h⟩ := h
        refine wpD_take (v := (Value.bool x57)) 13 (fun w => w.cell? ((Addr.mk b1 0 none).add 7) = some (Value.bool x57)) rfl (by kernel_rfl) (by kernel_rfl) (by kernel_rfl) rfl rfl rfl q57 (fun w q57 => (x_load1 rfl rfl SH_4 q57)) ?_
        refine wpD_take (v := (Value.bool x57)) 14 (fun _ => True) rfl (by kernel_rfl) (by kernel_rfl) (by kernel_rfl) rfl rfl rfl trivial (fun w _ => (x_move (v := (Value.bool x57)) rfl rfl)) ?_
        rcases Bool.eq_false_or_eq_true (x57) with hc58 | hc58
        · replace h := h.1 hc58
          refine wpD_take (v := (Value.pointer (some ((Addr.mk b2 0 none).add 7)))) 15 (fun _ => True) rfl (by kernel_rfl) (by kernel_rfl) (by kernel_rfl) (wantG rfl rfl rfl hc58) rfl rfl trivial (fun w _ => (x_fieldAddr rfl e3 FA_24_7)) ?_
          obtain ⟨x59, q59, h⟩ := h
          refine wpD_take (v := (Value.bool x59)) 16 (fun w => w.cell? ((Addr.mk b2 0 none).add 7) = some (Value.bool x59)) rfl (by kernel_rfl) (by kernel_rfl) (by kernel_rfl) (wantG rfl rfl rfl hc58) rfl rfl q59 (fun w q59 => (x_load1 rfl rfl SH_4 q59)) ?_
          refine wpD_take (v := (Value.bool x59)) 17 (fun _ => True) rfl (by kernel_rfl) (by kernel_rfl) (by kernel_rfl) rfl rfl rfl trivial (fun w _ => (x_pickT (v := (Value.bool x59)) rfl rfl hc58 rfl)) ?_
          refine wpD_take (v := (Value.pointer (some ((Addr.mk b26 0 none).add 4)))) 18 (fun _ => True) rfl (by kernel_rfl) (by kernel_rfl) (by kernel_rfl) rfl rfl rfl trivial (fun w _ => (x_fieldAddr rfl e5 FA_24_4)) ?_
          refine wpD_all (rs := [19]) (by kernel_rfl) (by simp) (allD_cons ?_ allD_nil)
          obtain ⟨q60, h⟩ := h
          obtain ⟨w18, hw60⟩ : ∃ u, u = setAll w11 ((Addr.mk b26 0 none).add 4) [(Value.bool x44)] 0 := ⟨_, rfl⟩
          replace h := h w18 hw60
          obtain ⟨o16, h⟩ := h
          obtain ⟨o13, h⟩ := h
          obtain ⟨o7, h⟩ := h
          refine stepD_skpL (L' := [(17, fun _ => True), (16, fun w => w.cell? ((Addr.mk b2 0 none).add 7) = some (Value.bool x59)), (15, fun _ => True), (13, fun w => w.cell? ((Addr.mk b1 0 none).add 7) = some (Value.bool x57)), (12, fun _ => True), (11, fun _ => True), (10, fun _ => True), (9, fun _ => True), (8, fun _ => True), (7, fun w => w.cell? ((Addr.mk b1 0 none).add 6) = some (Value.bool x45)), (6, fun _ => True)]) (w' := w18) rfl rfl rfl ((x_store (v := (Value.bool x44)) rfl rfl rfl SZ_4 (ones (by rfl)) q60).trans (by rw [hw60]; rfl)) (by kernel_rfl) (held_cons trivial (held_cons o16 (held_cons trivial (held_cons o13 (held_cons trivial (held_cons trivial (held_cons trivial (held_cons trivial (held_cons trivial (held_cons o7 (held_cons trivial held_nil))))))))))) ?_
          refine wpD_take (v := (Value.pointer (some ((Addr.mk b26 0 none).add 6)))) 20 (fun _ => True) rfl (by kernel_rfl) (by kernel_rfl) (by kernel_rfl) rfl rfl rfl trivial (fun w _ => (x_fieldAddr rfl e5 FA_24_6)) ?_
          refine wpD_all (rs := [21]) (by kernel_rfl) (by simp) (allD_cons ?_ allD_nil)
          obtain ⟨q61, h⟩ := h
          obtain ⟨w19, hw61⟩ : ∃ u, u = setAll w18 ((Addr.mk b26 0 none).add 6) [(Value.bool false)] 0 := ⟨_, rfl⟩
          replace h := h w19 hw61
          obtain ⟨o16, h⟩ := h
          obtain ⟨o13, h⟩ := h
          refine stepD_skpL (L' := [(17, fun _ => True), (16, fun w => w.cell? ((Addr.mk b2 0 none).add 7) = some (Value.bool x59)), (15, fun _ => True), (13, fun w => w.cell? ((Addr.mk b1 0 none).add 7) = some (Value.bool x57)), (12, fun _ => True)]) (w' := w19) rfl rfl rfl ((x_store (v := (Value.bool false)) rfl rfl rfl SZ_4 (ones (by rfl)) q61).trans (by rw [hw61]; rfl)) (by kernel_rfl) (held_cons trivial (held_cons o16 (held_cons trivial (held_cons o13 (held_cons trivial held_nil))))) ?_
          refine wpD_take (v := (Value.pointer (some ((Addr.mk b26 0 none).add 7)))) 22 (fun _ => True) rfl (by kernel_rfl) (by kernel_rfl) (by kernel_rfl) rfl rfl rfl trivial (fun w _ => (x_fieldAddr rfl e5 FA_24_7)) ?_
          refine wpD_all (rs := [23]) (by kernel_rfl) (by simp) (allD_cons ?_ allD_nil)
          obtain ⟨q62, h⟩ := h
          obtain ⟨w20, hw62⟩ : ∃ u, u = setAll w19 ((Addr.mk b26 0 none).add 7) [(Value.bool x59)] 0 := ⟨_, rfl⟩
          replace h := h w20 hw62
          refine stepD_skpL (L' := []) (w' := w20) rfl rfl rfl ((x_store (v := (Value.bool x59)) rfl rfl rfl SZ_4 (ones (by rfl)) q62).trans (by rw [hw62]; rfl)) (by kernel_rfl) held_nil ?_
          exact wpD_done (by kernel_rfl) ⟨(), ⟨e2, e3, e4, e5, trivial⟩, h⟩
        · replace h := h.2 hc58
          refine wpD_pass 15 rfl (by kernel_rfl) (by kernel_rfl) (by kernel_rfl) (wantN rfl rfl rfl hc58) rfl rfl ?_
          refine wpD_pass 16 rfl (by kernel_rfl) (by kernel_rfl) (by kernel_rfl) (wantN rfl rfl rfl hc58) rfl rfl ?_
          refine wpD_take (v := (Value.bool false)) 17 (fun _ => True) rfl (by kernel_rfl) (by kernel_rfl) (by kernel_rfl) rfl rfl rfl trivial (fun w _ => (x_pickF (v := (Value.bool false)) rfl rfl hc58 rfl)) ?_
          refine wpD_take (v := (Value.pointer (some ((Addr.mk b26 0 none).add 4)))) 18 (fun _ => True) rfl (by kernel_rfl) (by kernel_rfl) (by kernel_rfl) rfl rfl rfl trivial (fun w _ => (x_fieldAddr rfl e5 FA_24_4)) ?_
          refine wpD_all (rs := [19]) (by kernel_rfl) (by simp) (allD_cons ?_ allD_nil)
          obtain ⟨q63, h⟩ := h
          obtain ⟨w21, hw63⟩ : ∃ u, u = setAll w11 ((Addr.mk b26 0 none).add 4) [(Value.bool x44)] 0 := ⟨_, rfl⟩
          replace h := h w21 hw63
          obtain ⟨o13, h⟩ := h
          obtain ⟨o7, h⟩ := h
          refine stepD_skpL (L' := [(17, fun _ => True), (16, fun _ => True), (15, fun _ => True), (13, fun w => w.cell? ((Addr.mk b1 0 none).add 7) = some (Value.bool x57)), (12, fun _ => True), (11, fun _ => True), (10, fun _ => True), (9, fun _ => True), (8, fun _ => True), (7, fun w => w.cell? ((Addr.mk b1 0 none).add 6) = some (Value.bool x45)), (6, fun _ => True)]) (w' := w21) rfl rfl rfl ((x_store (v := (Value.bool x44)) rfl rfl rfl SZ_4 (ones (by rfl)) q63).trans (by rw [hw63]; rfl)) (by kernel_rfl) (held_cons trivial (held_cons trivial (held_cons trivial (held_cons o13 (held_cons trivial (held_cons trivial (held_cons trivial (held_cons trivial (held_cons trivial (held_cons o7 (held_cons trivial held_nil))))))))))) ?_
          refine wpD_take (v := (Value.pointer (some ((Addr.mk b26 0 none).add 6)))) 20 (fun _ => True) rfl (by kernel_rfl) (by kernel_rfl) (by kernel_rfl) rfl rfl rfl trivial (fun w _ => (x_fieldAddr rfl e5 FA_24_6)) ?_
          refine wpD_all (rs := [21]) (by kernel_rfl) (by simp) (allD_cons ?_ allD_nil)
          obtain ⟨q64, h⟩ := h
          obtain ⟨w22, hw64⟩ : ∃ u, u = setAll w21 ((Addr.mk b26 0 none).add 6) [(Value.bool false)] 0 := ⟨_, rfl⟩
          replace h := h w22 hw64
          obtain ⟨o13, h⟩ := h
          refine stepD_skpL (L' := [(17, fun _ => True), (16, fun _ => True), (15, fun _ => True), (13, fun w => w.cell? ((Addr.mk b1 0 none).add 7) = some (Value.bool x57)), (12, fun _ => True)]) (w' := w22) rfl rfl rfl ((x_store (v := (Value.bool false)) rfl rfl rfl SZ_4 (ones (by rfl)) q64).trans (by rw [hw64]; rfl)) (by kernel_rfl) (held_cons trivial (held_cons trivial (held_cons trivial (held_cons o13 (held_cons trivial held_nil))))) ?_
          refine wpD_take (v := (Value.pointer (some ((Addr.mk b26 0 none).add 7)))) 22 (fun _ => True) rfl (by kernel_rfl) (by kernel_rfl) (by kernel_rfl) rfl rfl rfl trivial (fun w _ => (x_fieldAddr rfl e5 FA_24_7)) ?_
          refine wpD_all (rs := [23]) (by kernel_rfl) (by simp) (allD_cons ?_ allD_nil)
          obtain ⟨q65, h⟩ := h
          obtain ⟨w23, hw65⟩ : ∃ u, u = setAll w22 ((Addr.mk b26 0 none).add 7) [(Value.bool false)] 0 := ⟨_, rfl⟩
          replace h := h w23 hw65
          refine stepD_skpL (L' := []) (w' := w23) rfl rfl rfl ((x_store (v := (Value.bool false)) rfl rfl rfl SZ_4 (ones (by rfl)) q65).trans (by rw [hw65]; rfl)) (by kernel_rfl) held_nil ?_
          exact wpD_done (by kernel_rfl) ⟨(), ⟨e2, e3, e4, e5, trivial⟩, h⟩
    · replace h := h.2 hc43
      refine wpD_pass 3 rfl (by kernel_rfl) (by kernel_rfl) (by kernel_rfl) (wantN rfl rfl rfl hc43) rfl rfl ?_
      refine wpD_pass 4 rfl (by kernel_rfl) (by kernel_rfl) (by kernel_rfl) (wantN rfl rfl rfl hc43) rfl rfl ?_
      refine wpD_take (v := (Value.bool false)) 5 (fun _ => True) rfl (by kernel_rfl) (by kernel_rfl) (by kernel_rfl) rfl rfl rfl trivial (fun w _ => (x_pickF (v := (Value.bool false)) rfl rfl hc43 rfl)) ?_
      refine wpD_take (v := (Value.pointer (some ((Addr.mk b1 0 none).add 6)))) 6 (fun _ => True) rfl (by kernel_rfl) (by kernel_rfl) (by kernel_rfl) rfl rfl rfl trivial (fun w _ => (x_fieldAddr rfl e2 FA_24_6)) ?_
      obtain ⟨x66, q66, h⟩ := h
      refine wpD_take (v := (Value.bool x66)) 7 (fun w => w.cell? ((Addr.mk b1 0 none).add 6) = some (Value.bool x66)) rfl (by kernel_rfl) (by kernel_rfl) (by kernel_rfl) rfl rfl rfl q66 (fun w q66 => (x_load1 rfl rfl SH_4 q66)) ?_
      refine wpD_take (v := (Value.bool x66)) 8 (fun _ => True) rfl (by kernel_rfl) (by kernel_rfl) (by kernel_rfl) rfl rfl rfl trivial (fun w _ => (x_move (v := (Value.bool x66)) rfl rfl)) ?_
      rcases Bool.eq_false_or_eq_true (x66) with hc67 | hc67
      · replace h := h.1 hc67
        refine wpD_take (v := (Value.pointer (some ((Addr.mk b2 0 none).add 6)))) 9 (fun _ => True) rfl (by kernel_rfl) (by kernel_rfl) (by kernel_rfl) (wantG rfl rfl rfl hc67) rfl rfl trivial (fun w _ => (x_fieldAddr rfl e3 FA_24_6)) ?_
        obtain ⟨x68, q68, h⟩ := h
        refine wpD_take (v := (Value.bool x68)) 10 (fun w => w.cell? ((Addr.mk b2 0 none).add 6) = some (Value.bool x68)) rfl (by kernel_rfl) (by kernel_rfl) (by kernel_rfl) (wantG rfl rfl rfl hc67) rfl rfl q68 (fun w q68 => (x_load1 rfl rfl SH_4 q68)) ?_
        refine wpD_take (v := (Value.bool x68)) 11 (fun _ => True) rfl (by kernel_rfl) (by kernel_rfl) (by kernel_rfl) rfl rfl rfl trivial (fun w _ => (x_pickT (v := (Value.bool x68)) rfl rfl hc67 rfl)) ?_
        refine wpD_take (v := (Value.pointer (some ((Addr.mk b1 0 none).add 7)))) 12 (fun _ => True) rfl (by kernel_rfl) (by kernel_rfl) (by kernel_rfl) rfl rfl rfl trivial (fun w _ => (x_fieldAddr rfl e2 FA_24_7)) ?_
        obtain ⟨x69, q69, h⟩ := h
        refine wpD_take (v := (Value.bool x69)) 13 (fun w => w.cell? ((Addr.mk b1 0 none).add 7) = some (Value.bool x69)) rfl (by kernel_rfl) (by kernel_rfl) (by kernel_rfl) rfl rfl rfl q69 (fun w q69 => (x_load1 rfl rfl SH_4 q69)) ?_
        refine wpD_take (v := (Value.bool x69)) 14 (fun _ => True) rfl (by kernel_rfl) (by kernel_rfl) (by kernel_rfl) rfl rfl rfl trivial (fun w _ => (x_move (v := (Value.bool x69)) rfl rfl)) ?_
        rcases Bool.eq_false_or_eq_true (x69) with hc70 | hc70
        · replace h := h.1 hc70
          refine wpD_take (v := (Value.pointer (some ((Addr.mk b2 0 none).add 7)))) 15 (fun _ => True) rfl (by kernel_rfl) (by kernel_rfl) (by kernel_rfl) (wantG rfl rfl rfl hc70) rfl rfl trivial (fun w _ => (x_fieldAddr rfl e3 FA_24_7)) ?_
          obtain ⟨x71, q71, h⟩ := h
          refine wpD_take (v := (Value.bool x71)) 16 (fun w => w.cell? ((Addr.mk b2 0 none).add 7) = some (Value.bool x71)) rfl (by kernel_rfl) (by kernel_rfl) (by kernel_rfl) (wantG rfl rfl rfl hc70) rfl rfl q71 (fun w q71 => (x_load1 rfl rfl SH_4 q71)) ?_
          refine wpD_take (v := (Value.bool x71)) 17 (fun _ => True) rfl (by kernel_rfl) (by kernel_rfl) (by kernel_rfl) rfl rfl rfl trivial (fun w _ => (x_pickT (v := (Value.bool x71)) rfl rfl hc70 rfl)) ?_
          refine wpD_take (v := (Value.pointer (some ((Addr.mk b26 0 none).add 4)))) 18 (fun _ => True) rfl (by kernel_rfl) (by kernel_rfl) (by kernel_rfl) rfl rfl rfl trivial (fun w _ => (x_fieldAddr rfl e5 FA_24_4)) ?_
          refine wpD_all (rs := [19]) (by kernel_rfl) (by simp) (allD_cons ?_ allD_nil)
          obtain ⟨q72, h⟩ := h
          obtain ⟨w24, hw72⟩ : ∃ u, u = setAll w11 ((Addr.mk b26 0 none).add 4) [(Value.bool false)] 0 := ⟨_, rfl⟩
          replace h := h w24 hw72
          obtain ⟨o16, h⟩ := h
          obtain ⟨o13, h⟩ := h
          obtain ⟨o10, h⟩ := h
          obtain ⟨o7, h⟩ := h
          refine stepD_skpL (L' := [(17, fun _ => True), (16, fun w => w.cell? ((Addr.mk b2 0 none).add 7) = some (Value.bool x71)), (15, fun _ => True), (13, fun w => w.cell? ((Addr.mk b1 0 none).add 7) = some (Value.bool x69)), (12, fun _ => True), (11, fun _ => True), (10, fun w => w.cell? ((Addr.mk b2 0 none).add 6) = some (Value.bool x68)), (9, fun _ => True), (8, fun _ => True), (7, fun w => w.cell? ((Addr.mk b1 0 none).add 6) = some (Value.bool x66)), (6, fun _ => True)]) (w' := w24) rfl rfl rfl ((x_store (v := (Value.bool false)) rfl rfl rfl SZ_4 (ones (by rfl)) q72).trans (by rw [hw72]; rfl)) (by kernel_rfl) (held_cons trivial (held_cons o16 (held_cons trivial (held_cons o13 (held_cons trivial (held_cons trivial (held_cons o10 (held_cons trivial (held_cons trivial (held_cons o7 (held_cons trivial held_nil))))))))))) ?_
          refine wpD_take (v := (Value.pointer (some ((Addr.mk b26 0 none).add 6)))) 20 (fun _ => True) rfl (by kernel_rfl) (by kernel_rfl) (by kernel_rfl) rfl rfl rfl trivial (fun w _ => (x_fieldAddr rfl e5 FA_24_6)) ?_
          refine wpD_all (rs := [21]) (by kernel_rfl) (by simp) (allD_cons ?_ allD_nil)
          obtain ⟨q73, h⟩ := h
          obtain ⟨w25, hw73⟩ : ∃ u, u = setAll w24 ((Addr.mk b26 0 none).add 6) [(Value.bool x68)] 0 := ⟨_, rfl⟩
          replace h := h w25 hw73
          obtain ⟨o16, h⟩ := h
          obtain ⟨o13, h⟩ := h
          refine stepD_skpL (L' := [(17, fun _ => True), (16, fun w => w.cell? ((Addr.mk b2 0 none).add 7) = some (Value.bool x71)), (15, fun _ => True), (13, fun w => w.cell? ((Addr.mk b1 0 none).add 7) = some (Value.bool x69)), (12, fun _ => True)]) (w' := w25) rfl rfl rfl ((x_store (v := (Value.bool x68)) rfl rfl rfl SZ_4 (ones (by rfl)) q73).trans (by rw [hw73]; rfl)) (by kernel_rfl) (held_cons trivial (held_cons o16 (held_cons trivial (held_cons o13 (held_cons trivial held_nil))))) ?_
          refine wpD_take (v := (Value.pointer (some ((Addr.mk b26 0 none).add 7)))) 22 (fun _ => True) rfl (by kernel_rfl) (by kernel_rfl) (by kernel_rfl) rfl rfl rfl trivial (fun w _ => (x_fieldAddr rfl e5 FA_24_7)) ?_
          refine wpD_all (rs := [23]) (by kernel_rfl) (by simp) (allD_cons ?_ allD_nil)
          obtain ⟨q74, h⟩ := h
          obtain ⟨w26, hw74⟩ : ∃ u, u = setAll w25 ((Addr.mk b26 0 none).add 7) [(Value.bool x71)] 0 := ⟨_, rfl⟩
          replace h := h w26 hw74
          refine stepD_skpL (L' := []) (w' := w26) rfl rfl rfl ((x_store (v := (Value.bool x71)) rfl rfl rfl SZ_4 (ones (by rfl)) q74).trans (by rw [hw74]; rfl)) (by kernel_rfl) held_nil ?_
          exact wpD_done (by kernel_rfl) ⟨(), ⟨e2, e3, e4, e5, trivial⟩, h⟩
        · replace h := h.2 hc70
          refine wpD_pass 15 rfl (by kernel_rfl) (by kernel_rfl) (by kernel_rfl) (wantN rfl rfl rfl hc70) rfl rfl ?_
          refine wpD_pass 16 rfl (by kernel_rfl) (by kernel_rfl) (by kernel_rfl) (wantN rfl rfl rfl hc70) rfl rfl ?_
          refine wpD_take (v := (Value.bool false)) 17 (fun _ => True) rfl (by kernel_rfl) (by kernel_rfl) (by kernel_rfl) rfl rfl rfl trivial (fun w _ => (x_pickF (v := (Value.bool false)) rfl rfl hc70 rfl)) ?_
          refine wpD_take (v := (Value.pointer (some ((Addr.mk b26 0 none).add 4)))) 18 (fun _ => True) rfl (by kernel_rfl) (by kernel_rfl) (by kernel_rfl) rfl rfl rfl trivial (fun w _ => (x_fieldAddr rfl e5 FA_24_4)) ?_
          refine wpD_all (rs := [19]) (by kernel_rfl) (by simp) (allD_cons ?_ allD_nil)
          obtain ⟨q75, h⟩ := h
          obtain ⟨w27, hw75⟩ : ∃ u, u = setAll w11 ((Addr.mk b26 0 none).add 4) [(Value.bool false)] 0 := ⟨_, rfl⟩
          replace h := h w27 hw75
          obtain ⟨o13, h⟩ := h
          obtain ⟨o10, h⟩ := h
          obtain ⟨o7, h⟩ := h
          refine stepD_skpL (L' := [(17, fun _ => True), (16, fun _ => True), (15, fun _ => True), (13, fun w => w.cell? ((Addr.mk b1 0 none).add 7) = some (Value.bool x69)), (12, fun _ => True), (11, fun _ => True), (10, fun w => w.cell? ((Addr.mk b2 0 none).add 6) = some (Value.bool x68)), (9, fun _ => True), (8, fun _ => True), (7, fun w => w.cell? ((Addr.mk b1 0 none).add 6) = some (Value.bool x66)), (6, fun _ => True)]) (w' := w27) rfl rfl rfl ((x_store (v := (Value.bool false)) rfl rfl rfl SZ_4 (ones (by rfl)) q75).trans (by rw [hw75]; rfl)) (by kernel_rfl) (held_cons trivial (held_cons trivial (held_cons trivial (held_cons o13 (held_cons trivial (held_cons trivial (held_cons o10 (held_cons trivial (held_cons trivial (held_cons o7 (held_cons trivial held_nil))))))))))) ?_
          refine wpD_take (v := (Value.pointer (some ((Addr.mk b26 0 none).add 6)))) 20 (fun _ => True) rfl (by kernel_rfl) (by kernel_rfl) (by kernel_rfl) rfl rfl rfl trivial (fun w _ => (x_fieldAddr rfl e5 FA_24_6)) ?_
          refine wpD_all (rs := [21]) (by kernel_rfl) (by simp) (allD_cons ?_ allD_nil)
          obtain ⟨q76, h⟩ := h
          obtain ⟨w28, hw76⟩ : ∃ u, u = setAll w27 ((Addr.mk b26 0 none).add 6) [(Value.bool x68)] 0 := ⟨_, rfl⟩
          replace h := h w28 hw76
          obtain ⟨o13, h⟩ := h
          refine stepD_skpL (L' := [(17, fun _ => True), (16, fun _ => True), (15, fun _ => True), (13, fun w => w.cell? ((Addr.mk b1 0 none).add 7) = some (Value.bool x69)), (12, fun _ => True)]) (w' := w28) rfl rfl rfl ((x_store (v := (Value.bool x68)) rfl rfl rfl SZ_4 (ones (by rfl)) q76).trans (by rw [hw76]; rfl)) (by kernel_rfl) (held_cons trivial (held_cons trivial (held_cons trivial (held_cons o13 (held_cons trivial held_nil))))) ?_
          refine wpD_take (v := (Value.pointer (some ((Addr.mk b26 0 none).add 7)))) 22 (fun _ => True) rfl (by kernel_rfl) (by kernel_rfl) (by kernel_rfl) rfl rfl rfl trivial (fun w _ => (x_fieldAddr rfl e5 FA_24_7)) ?_
          refine wpD_all (rs := [23]) (by kernel_rfl) (by simp) (allD_cons ?_ allD_nil)
          obtain ⟨q77, h⟩ := h
          obtain ⟨w29, hw77⟩ : ∃ u, u = setAll w28 ((Addr.mk b26 0 none).add 7) [(Value.bool false)] 0 := ⟨_, rfl⟩
          replace h := h w29 hw77
          refine stepD_skpL (L' := []) (w' := w29) rfl rfl rfl ((x_store (v := (Value.bool false)) rfl rfl rfl SZ_4 (ones (by rfl)) q77).trans (by rw [hw77]; rfl)) (by kernel_rfl) held_nil ?_
          exact wpD_done (by kernel_rfl) ⟨(), ⟨e2, e3, e4, e5, trivial⟩, h⟩
      · replace h := h.2 hc67
        refine wpD_pass 9 rfl (by kernel_rfl) (by kernel_rfl) (by kernel_rfl) (wantN rfl rfl rfl hc67) rfl rfl ?_
        refine wpD_pass 10 rfl (by kernel_rfl) (by kernel_rfl) (by kernel_rfl) (wantN rfl rfl rfl hc67) rfl rfl ?_
        refine wpD_take (v := (Value.bool false)) 11 (fun _ => True) rfl (by kernel_rfl) (by kernel_rfl) (by kernel_rfl) rfl rfl rfl trivial (fun w _ => (x_pickF (v := (Value.bool false)) rfl rfl hc67 rfl)) ?_
        refine wpD_take (v := (Value.pointer (some ((Addr.mk b1 0 none).add 7)))) 12 (fun _ => True) rfl (by kernel_rfl) (by kernel_rfl) (by kernel_rfl) rfl rfl rfl trivial (fun w _ => (x_fieldAddr rfl e2 FA_24_7)) ?_
        obtain ⟨x78, q78, h⟩ := h
        refine wpD_take (v := (Value.bool x78)) 13 (fun w => w.cell? ((Addr.mk b1 0 none).add 7) = some (Value.bool x78)) rfl (by kernel_rfl) (by kernel_rfl) (by kernel_rfl) rfl rfl rfl q78 (fun w q78 => (x_load1 rfl rfl SH_4 q78)) ?_
        refine wpD_take (v := (Value.bool x78)) 14 (fun _ => True) rfl (by kernel_rfl) (by kernel_rfl) (by kernel_rfl) rfl rfl rfl trivial (fun w _ => (x_move (v := (Value.bool x78)) rfl rfl)) ?_
        rcases Bool.eq_false_or_eq_true (x78) with hc79 | hc79
        · replace h := h.1 hc79
          refine wpD_take (v := (Value.pointer (some ((Addr.mk b2 0 none).add 7)))) 15 (fun _ => True) rfl (by kernel_rfl) (by kernel_rfl) (by kernel_rfl) (wantG rfl rfl rfl hc79) rfl rfl trivial (fun w _ => (x_fieldAddr rfl e3 FA_24_7)) ?_
          obtain ⟨x80, q80, h⟩ := h
          refine wpD_take (v := (Value.bool x80)) 16 (fun w => w.cell? ((Addr.mk b2 0 none).add 7) = some (Value.bool x80)) rfl (by kernel_rfl) (by kernel_rfl) (by kernel_rfl) (wantG rfl rfl rfl hc79) rfl rfl q80 (fun w q80 => (x_load1 rfl rfl SH_4 q80)) ?_
          refine wpD_take (v := (Value.bool x80)) 17 (fun _ => True) rfl (by kernel_rfl) (by kernel_rfl) (by kernel_rfl) rfl rfl rfl trivial (fun w _ => (x_pickT (v := (Value.bool x80)) rfl rfl hc79 rfl)) ?_
          refine wpD_take (v := (Value.pointer (some ((Addr.mk b26 0 none).add 4)))) 18 (fun _ => True) rfl (by kernel_rfl) (by kernel_rfl) (by kernel_rfl) rfl rfl rfl trivial (fun w _ => (x_fieldAddr rfl e5 FA_24_4)) ?_
          refine wpD_all (rs := [19]) (by kernel_rfl) (by simp) (allD_cons ?_ allD_nil)
          obtain ⟨q81, h⟩ := h
          obtain ⟨w30, hw81⟩ : ∃ u, u = setAll w11 ((Addr.mk b26 0 none).add 4) [(Value.bool false)] 0 := ⟨_, rfl⟩
          replace h := h w30 hw81
          obtain ⟨o16, h⟩ := h
          obtain ⟨o13, h⟩ := h
          obtain ⟨o7, h⟩ := h
          refine stepD_skpL (L' := [(17, fun _ => True), (16, fun w => w.cell? ((Addr.mk b2 0 none).add 7) = some (Value.bool x80)), (15, fun _ => True), (13, fun w => w.cell? ((Addr.mk b1 0 none).add 7) = some (Value.bool x78)), (12, fun _ => True), (11, fun _ => True), (10, fun _ => True), (9, fun _ => True), (8, fun _ => True), (7, fun w => w.cell? ((Addr.mk b1 0 none).add 6) = some (Value.bool x66)), (6, fun _ => True)]) (w' := w30) rfl rfl rfl ((x_store (v := (Value.bool false)) rfl rfl rfl SZ_4 (ones (by rfl)) q81).trans (by rw [hw81]; rfl)) (by kernel_rfl) (held_cons trivial (held_cons o16 (held_cons trivial (held_cons o13 (held_cons trivial (held_cons trivial (held_cons trivial (held_cons trivial (held_cons trivial (held_cons o7 (held_cons trivial held_nil))))))))))) ?_
          refine wpD_take (v := (Value.pointer (some ((Addr.mk b26 0 none).add 6)))) 20 (fun _ => True) rfl (by kernel_rfl) (by kernel_rfl) (by kernel_rfl) rfl rfl rfl trivial (fun w _ => (x_fieldAddr rfl e5 FA_24_6)) ?_
          refine wpD_all (rs := [21]) (by kernel_rfl) (by simp) (allD_cons ?_ allD_nil)
          obtain ⟨q82, h⟩ := h
          obtain ⟨w31, hw82⟩ : ∃ u, u = setAll w30 ((Addr.mk b26 0 none).add 6) [(Value.bool false)] 0 := ⟨_, rfl⟩
          replace h := h w31 hw82
          obtain ⟨o16, h⟩ := h
          obtain ⟨o13, h⟩ := h
          refine stepD_skpL (L' := [(17, fun _ => True), (16, fun w => w.cell? ((Addr.mk b2 0 none).add 7) = some (Value.bool x80)), (15, fun _ => True), (13, fun w => w.cell? ((Addr.mk b1 0 none).add 7) = some (Value.bool x78)), (12, fun _ => True)]) (w' := w31) rfl rfl rfl ((x_store (v := (Value.bool false)) rfl rfl rfl SZ_4 (ones (by rfl)) q82).trans (by rw [hw82]; rfl)) (by kernel_rfl) (held_cons trivial (held_cons o16 (held_cons trivial (held_cons o13 (held_cons trivial held_nil))))) ?_
          refine wpD_take (v := (Value.pointer (some ((Addr.mk b26 0 none).add 7)))) 22 (fun _ => True) rfl (by kernel_rfl) (by kernel_rfl) (by kernel_rfl) rfl rfl rfl trivial (fun w _ => (x_fieldAddr rfl e5 FA_24_7)) ?_
          refine wpD_all (rs := [23]) (by kernel_rfl) (by simp) (allD_cons ?_ allD_nil)
          obtain ⟨q83, h⟩ := h
          obtain ⟨w32, hw83⟩ : ∃ u, u = setAll w31 ((Addr.mk b26 0 none).add 7) [(Value.bool x80)] 0 := ⟨_, rfl⟩
          replace h := h w32 hw83
          refine stepD_skpL (L' := []) (w' := w32) rfl rfl rfl ((x_store (v := (Value.bool x80)) rfl rfl rfl SZ_4 (ones (by rfl)) q83).trans (by rw [hw83]; rfl)) (by kernel_rfl) held_nil ?_
          exact wpD_done (by kernel_rfl) ⟨(), ⟨e2, e3, e4, e5, trivial⟩, h⟩
        · replace h := h.2 hc79
          refine wpD_pass 15 rfl (by kernel_rfl) (by kernel_rfl) (by kernel_rfl) (wantN rfl rfl rfl hc79) rfl rfl ?_
          refine wpD_pass 16 rfl (by kernel_rfl) (by kernel_rfl) (by kernel_rfl) (wantN rfl rfl rfl hc79) rfl rfl ?_
          refine wpD_take (v := (Value.bool false)) 17 (fun _ => True) rfl (by kernel_rfl) (by kernel_rfl) (by kernel_rfl) rfl rfl rfl trivial (fun w _ => (x_pickF (v := (Value.bool false)) rfl rfl hc79 rfl)) ?_
          refine wpD_take (v := (Value.pointer (some ((Addr.mk b26 0 none).add 4)))) 18 (fun _ => True) rfl (by kernel_rfl) (by kernel_rfl) (by kernel_rfl) rfl rfl rfl trivial (fun w _ => (x_fieldAddr rfl e5 FA_24_4)) ?_
          refine wpD_all (rs := [19]) (by kernel_rfl) (by simp) (allD_cons ?_ allD_nil)
          obtain ⟨q84, h⟩ := h
          obtain ⟨w33, hw84⟩ : ∃ u, u = setAll w11 ((Addr.mk b26 0 none).add 4) [(Value.bool false)] 0 := ⟨_, rfl⟩
          replace h := h w33 hw84
          obtain ⟨o13, h⟩ := h
          obtain ⟨o7, h⟩ := h
          refine stepD_skpL (L' := [(17, fun _ => True), (16, fun _ => True), (15, fun _ => True), (13, fun w => w.cell? ((Addr.mk b1 0 none).add 7) = some (Value.bool x78)), (12, fun _ => True), (11, fun _ => True), (10, fun _ => True), (9, fun _ => True), (8, fun _ => True), (7, fun w => w.cell? ((Addr.mk b1 0 none).add 6) = some (Value.bool x66)), (6, fun _ => True)]) (w' := w33) rfl rfl rfl ((x_store (v := (Value.bool false)) rfl rfl rfl SZ_4 (ones (by rfl)) q84).trans (by rw [hw84]; rfl)) (by kernel_rfl) (held_cons trivial (held_cons trivial (held_cons trivial (held_cons o13 (held_cons trivial (held_cons trivial (held_cons trivial (held_cons trivial (held_cons trivial (held_cons o7 (held_cons trivial held_nil))))))))))) ?_
          refine wpD_take (v := (Value.pointer (some ((Addr.mk b26 0 none).add 6)))) 20 (fun _ => True) rfl (by kernel_rfl) (by kernel_rfl) (by kernel_rfl) rfl rfl rfl trivial (fun w _ => (x_fieldAddr rfl e5 FA_24_6)) ?_
          refine wpD_all (rs := [21]) (by kernel_rfl) (by simp) (allD_cons ?_ allD_nil)
          obtain ⟨q85, h⟩ := h
          obtain ⟨w34, hw85⟩ : ∃ u, u = setAll w33 ((Addr.mk b26 0 none).add 6) [(Value.bool false)] 0 := ⟨_, rfl⟩
          replace h := h w34 hw85
          obtain ⟨o13, h⟩ := h
          refine stepD_skpL (L' := [(17, fun _ => True), (16, fun _ => True), (15, fun _ => True), (13, fun w => w.cell? ((Addr.mk b1 0 none).add 7) = some (Value.bool x78)), (12, fun _ => True)]) (w' := w34) rfl rfl rfl ((x_store (v := (Value.bool false)) rfl rfl rfl SZ_4 (ones (by rfl)) q85).trans (by rw [hw85]; rfl)) (by kernel_rfl) (held_cons trivial (held_cons trivial (held_cons trivial (held_cons o13 (held_cons trivial held_nil))))) ?_
          refine wpD_take (v := (Value.pointer (some ((Addr.mk b26 0 none).add 7)))) 22 (fun _ => True) rfl (by kernel_rfl) (by kernel_rfl) (by kernel_rfl) rfl rfl rfl trivial (fun w _ => (x_fieldAddr rfl e5 FA_24_7)) ?_
          refine wpD_all (rs := [23]) (by kernel_rfl) (by simp) (allD_cons ?_ allD_nil)
          obtain ⟨q86, h⟩ := h
          obtain ⟨w35, hw86⟩ : ∃ u, u = setAll w34 ((Addr.mk b26 0 none).add 7) [(Value.bool false)] 0 := ⟨_, rfl⟩
          replace h := h w35 hw86
          refine stepD_skpL (L' := []) (w' := w35) rfl rfl rfl ((x_store (v := (Value.bool false)) rfl rfl rfl SZ_4 (ones (by rfl)) q86).trans (by rw [hw86]; rfl)) (by kernel_rfl) held_nil ?_
          exact wpD_done (by kernel_rfl) ⟨(), ⟨e2, e3, e4, e5, trivial⟩, h⟩
  clear h
  rintro l87 ρ w36 ⟨e2, e3, e4, e5, -⟩ h
  replace h := hk l87 w36 h
  clear hk
  refine wpC_seq ?_
  obtain ⟨J89, h, hk⟩ := h
  refine wpC_drawJ (by kernel_rfl) (fun (x : Unit) ρ => ρ 2 = (Value.pointer (some (Addr.mk b1 0 none))) ∧ ρ 3 = (Value.pointer (some (Addr.mk b2 0 none))) ∧ ρ 4 = (Value.pointer (some (Addr.mk b3 0 none))) ∧ ρ 5 = (Value.pointer (some (Addr.mk b26 0 none))) ∧ True) J89 ?_ ?_
  · clear hk
    unfold tk at h
    generalize w36.drew = w37 at h ⊢
    refine wpD_take (v := (Value.pointer (some ((Addr.mk b1 0 none).add 8)))) 0 (fun _ => True) rfl (by kernel_rfl) (by kernel_rfl) (by kernel_rfl) rfl rfl rfl trivial (fun w _ => (x_fieldAddr rfl e2 FA_24_8)) ?_
    obtain ⟨x90, q90, h⟩ := h
    refine wpD_take (v := (Value.int .i64 x90)) 1 (fun w => w.cell? ((Addr.mk b1 0 none).add 8) = some (Value.int .i64 x90)) rfl (by kernel_rfl) (by kernel_rfl) (by kernel_rfl) rfl rfl rfl q90 (fun w q90 => (x_load1 rfl rfl SH_3 q90)) ?_
    refine wpD_take (v := (Value.pointer (some ((Addr.mk b2 0 none).add 8)))) 2 (fun _ => True) rfl (by kernel_rfl) (by kernel_rfl) (by kernel_rfl) rfl rfl rfl trivial (fun w _ => (x_fieldAddr rfl e3 FA_24_8)) ?_
    obtain ⟨x91, q91, h⟩ := h
    refine wpD_take (v := (Value.int .i64 x91)) 3 (fun w => w.cell? ((Addr.mk b2 0 none).add 8) = some (Value.int .i64 x91)) rfl (by kernel_rfl) (by kernel_rfl) (by kernel_rfl) rfl rfl rfl q91 (fun w q91 => (x_load1 rfl rfl SH_3 q91)) ?_
    refine wpD_take (v := (Value.int .i64 (min x90 x91))) 4 (fun _ => True) rfl (by kernel_rfl) (by kernel_rfl) (by kernel_rfl) rfl rfl rfl trivial (fun w _ => (x_min rfl rfl rfl)) ?_
    refine wpD_take (v := (Value.pointer (some ((Addr.mk b1 0 none).add 9)))) 5 (fun _ => True) rfl (by kernel_rfl) (by kernel_rfl) (by kernel_rfl) rfl rfl rfl trivial (fun w _ => (x_fieldAddr rfl e2 FA_24_9)) ?_
    obtain ⟨x92, q92, h⟩ := h
    refine wpD_take (v := (Value.int .i64 x92)) 6 (fun w => w.cell? ((Addr.mk b1 0 none).add 9) = some (Value.int .i64 x92)) rfl (by kernel_rfl) (by kernel_rfl) (by kernel_rfl) rfl rfl rfl q92 (fun w q92 => (x_load1 rfl rfl SH_3 q92)) ?_
    refine wpD_take (v := (Value.pointer (some ((Addr.mk b2 0 none).add 9)))) 7 (fun _ => True) rfl (by kernel_rfl) (by kernel_rfl) (by kernel_rfl) rfl rfl rfl trivial (fun w _ => (x_fieldAddr rfl e3 FA_24_9)) ?_
    obtain ⟨x93, q93, h⟩ := h
    refine wpD_take (v := (Value.int .i64 x93)) 8 (fun w => w.cell? ((Addr.mk b2 0 none).add 9) = some (Value.int .i64 x93)) rfl (by kernel_rfl) (by kernel_rfl) (by kernel_rfl) rfl rfl rfl q93 (fun w q93 => (x_load1 rfl rfl SH_3 q93)) ?_
    refine wpD_take (v := (Value.int .i64 (min x92 x93))) 9 (fun _ => True) rfl (by kernel_rfl) (by kernel_rfl) (by kernel_rfl) rfl rfl rfl trivial (fun w _ => (x_min rfl rfl rfl)) ?_
    refine wpD_take (v := (Value.pointer (some ((Addr.mk b1 0 none).add 16)))) 10 (fun _ => True) rfl (by kernel_rfl) (by kernel_rfl) (by kernel_rfl) rfl rfl rfl trivial (fun w _ => (x_fieldAddr rfl e2 FA_24_16)) ?_
    obtain ⟨x94, q94, h⟩ := h
    refine wpD_take (v := (Value.int .i64 x94)) 11 (fun w => w.cell? ((Addr.mk b1 0 none).add 16) = some (Value.int .i64 x94)) rfl (by kernel_rfl) (by kernel_rfl) (by kernel_rfl) rfl rfl rfl q94 (fun w q94 => (x_load1 rfl rfl SH_3 q94)) ?_
    refine wpD_take (v := (Value.pointer (some ((Addr.mk b2 0 none).add 16)))) 12 (fun _ => True) rfl (by kernel_rfl) (by kernel_rfl) (by kernel_rfl) rfl rfl rfl trivial (fun w _ => (x_fieldAddr rfl e3 FA_24_16)) ?_
    obtain ⟨x95, q95, h⟩ := h
    refine wpD_take (v := (Value.int .i64 x95)) 13 (fun w => w.cell? ((Addr.mk b2 0 none).add 16) = some (Value.int .i64 x95)) rfl (by kernel_rfl) (by kernel_rfl) (by kernel_rfl) rfl rfl rfl q95 (fun w q95 => (x_load1 rfl rfl SH_3 q95)) ?_
    refine wpD_take (v := (Value.int .i64 (min x94 x95))) 14 (fun _ => True) rfl (by kernel_rfl) (by kernel_rfl) (by kernel_rfl) rfl rfl rfl trivial (fun w _ => (x_min rfl rfl rfl)) ?_
    refine wpD_take (v := (Value.pointer (some ((Addr.mk b26 0 none).add 8)))) 15 (fun _ => True) rfl (by kernel_rfl) (by kernel_rfl) (by kernel_rfl) rfl rfl rfl trivial (fun w _ => (x_fieldAddr rfl e5 FA_24_8)) ?_
    refine wpD_all (rs := [16]) (by kernel_rfl) (by simp) (allD_cons ?_ allD_nil)
    obtain ⟨q96, h⟩ := h
    obtain ⟨w38, hw96⟩ : ∃ u, u = setAll w37 ((Addr.mk b26 0 none).add 8) [(Value.int .i64 (min x90 x91))] 0 := ⟨_, rfl⟩
    replace h := h w38 hw96
    obtain ⟨o13, h⟩ := h
    obtain ⟨o11, h⟩ := h
    obtain ⟨o8, h⟩ := h
    obtain ⟨o6, h⟩ := h
    refine stepD_skpL (L' := [(14, fun _ => True), (13, fun w => w.cell? ((Addr.mk b2 0 none).add 16) = some (Value.int .i64 x95)), (12, fun _ => True), (11, fun w => w.cell? ((Addr.mk b1 0 none).add 16) = some (Value.int .i64 x94)), (10, fun _ => True), (9, fun _ => True), (8, fun w => w.cell? ((Addr.mk b2 0 none).add 9) = some (Value.int .i64 x93)), (7, fun _ => True), (6, fun w => w.cell? ((Addr.mk b1 0 none).add 9) = some (Value.int .i64 x92)), (5, fun _ => True)]) (w' := w38) rfl rfl rfl ((x_store (v := (Value.int .i64 (min x90 x91))) rfl rfl rfl SZ_3 (ones (by rfl)) q96).trans (by rw [hw96]; rfl)) (by kernel_rfl) (held_cons trivial (held_cons o13 (held_cons trivial (held_cons o11 (held_cons trivial (held_cons trivial (held_cons o8 (held_cons trivial (held_cons o6 (held_cons trivial held_nil)))))))))) ?_
    refine wpD_take (v := (Value.pointer (some ((Addr.mk b26 0 none).add 9)))) 17 (fun _ => True) rfl (by kernel_rfl) (by kernel_rfl) (by kernel_rfl) rfl rfl rfl trivial (fun w _ => (x_fieldAddr rfl e5 FA_24_9)) ?_
    refine wpD_all (rs := [18]) (by kernel_rfl) (by simp) (allD_cons ?_ allD_nil)
    obtain ⟨q97, h⟩ := h
    obtain ⟨w39, hw97⟩ : ∃ u, u = setAll w38 ((Addr.mk b26 0 none).add 9) [(Value.int .i64 (min x92 x93))] 0 := ⟨_, rfl⟩
    replace h := h w39 hw97
    obtain ⟨o13, h⟩ := h
    obtain ⟨o11, h⟩ := h
    refine stepD_skpL (L' := [(14, fun _ => True), (13, fun w => w.cell? ((Addr.mk b2 0 none).add 16) = some (Value.int .i64 x95)), (12, fun _ => True), (11, fun w => w.cell? ((Addr.mk b1 0 none).add 16) = some (Value.int .i64 x94)), (10, fun _ => True)]) (w' := w39) rfl rfl rfl ((x_store (v := (Value.int .i64 (min x92 x93))) rfl rfl rfl SZ_3 (ones (by rfl)) q97).trans (by rw [hw97]; rfl)) (by kernel_rfl) (held_cons trivial (held_cons o13 (held_cons trivial (held_cons o11 (held_cons trivial held_nil))))) ?_
    refine wpD_take (v := (Value.pointer (some ((Addr.mk b26 0 none).add 16)))) 19 (fun _ => True) rfl (by kernel_rfl) (by kernel_rfl) (by kernel_rfl) rfl rfl rfl trivial (fun w _ => (x_fieldAddr rfl e5 FA_24_16)) ?_
    refine wpD_all (rs := [20]) (by kernel_rfl) (by simp) (allD_cons ?_ allD_nil)
    obtain ⟨q98, h⟩ := h
    obtain ⟨w40, hw98⟩ : ∃ u, u = setAll w39 ((Addr.mk b26 0 none).add 16) [(Value.int .i64 (min x94 x95))] 0 := ⟨_, rfl⟩
    replace h := h w40 hw98
    refine stepD_skpL (L' := []) (w' := w40) rfl rfl rfl ((x_store (v := (Value.int .i64 (min x94 x95))) rfl rfl rfl SZ_3 (ones (by rfl)) q98).trans (by rw [hw98]; rfl)) (by kernel_rfl) held_nil ?_
    exact wpD_done (by kernel_rfl) ⟨(), ⟨e2, e3, e4, e5, trivial⟩, h⟩
  clear h
  rintro l99 ρ w41 ⟨e2, e3, e4, e5, -⟩ h
  replace h := hk l99 w41 h
  clear hk
  refine wpC_seq ?_
  obtain ⟨J101, h, hk⟩ := h
  refine wpC_drawJ (by kernel_rfl) (fun (x : Unit) ρ => ρ 2 = (Value.pointer (some (Addr.mk b1 0 none))) ∧ ρ 3 = (Value.pointer (some (Addr.mk b2 0 none))) ∧ ρ 4 = (Value.pointer (some (Addr.mk b3 0 none))) ∧ ρ 5 = (Value.pointer (some (Addr.mk b26 0 none))) ∧ True) J101 ?_ ?_
  · clear hk
    unfold tk at h
    generalize w41.drew = w42 at h ⊢
    refine wpD_take (v := (Value.pointer (some ((Addr.mk b1 0 none).add 10)))) 0 (fun _ => True) rfl (by kernel_rfl) (by kernel_rfl) (by kernel_rfl) rfl rfl rfl trivial (fun w _ => (x_fieldAddr rfl e2 FA_24_10)) ?_
    obtain ⟨x102, q102, h⟩ := h
    refine wpD_take (v := (Value.int .i64 x102)) 1 (fun w => w.cell? ((Addr.mk b1 0 none).add 10) = some (Value.int .i64 x102)) rfl (by kernel_rfl) (by kernel_rfl) (by kernel_rfl) rfl rfl rfl q102 (fun w q102 => (x_load1 rfl rfl SH_3 q102)) ?_
    refine wpD_take (v := (Value.pointer (some ((Addr.mk b2 0 none).add 10)))) 2 (fun _ => True) rfl (by kernel_rfl) (by kernel_rfl) (by kernel_rfl) rfl rfl rfl trivial (fun w _ => (x_fieldAddr rfl e3 FA_24_10)) ?_
    obtain ⟨x103, q103, h⟩ := h
    refine wpD_take (v := (Value.int .i64 x103)) 3 (fun w => w.cell? ((Addr.mk b2 0 none).add 10) = some (Value.int .i64 x103)) rfl (by kernel_rfl) (by kernel_rfl) (by kernel_rfl) rfl rfl rfl q103 (fun w q103 => (x_load1 rfl rfl SH_3 q103)) ?_
    refine wpD_take (v := (Value.int .i64 (min x102 x103))) 4 (fun _ => True) rfl (by kernel_rfl) (by kernel_rfl) (by kernel_rfl) rfl rfl rfl trivial (fun w _ => (x_min rfl rfl rfl)) ?_
    refine wpD_take (v := (Value.pointer (some ((Addr.mk b1 0 none).add 11)))) 5 (fun _ => True) rfl (by kernel_rfl) (by kernel_rfl) (by kernel_rfl) rfl rfl rfl trivial (fun w _ => (x_fieldAddr rfl e2 FA_24_11)) ?_
    obtain ⟨x104, q104, h⟩ := h
    refine wpD_take (v := (Value.int .i64 x104)) 6 (fun w => w.cell? ((Addr.mk b1 0 none).add 11) = some (Value.int .i64 x104)) rfl (by kernel_rfl) (by kernel_rfl) (by kernel_rfl) rfl rfl rfl q104 (fun w q104 => (x_load1 rfl rfl SH_3 q104)) ?_
    refine wpD_take (v := (Value.pointer (some ((Addr.mk b2 0 none).add 11)))) 7 (fun _ => True) rfl (by kernel_rfl) (by kernel_rfl) (by kernel_rfl) rfl rfl rfl trivial (fun w _ => (x_fieldAddr rfl e3 FA_24_11)) ?_
    obtain ⟨x105, q105, h⟩ := h
    refine wpD_take (v := (Value.int .i64 x105)) 8 (fun w => w.cell? ((Addr.mk b2 0 none).add 11) = some (Value.int .i64 x105)) rfl (by kernel_rfl) (by kernel_rfl) (by kernel_rfl) rfl rfl rfl q105 (fun w q105 => (x_load1 rfl rfl SH_3 q105)) ?_
    refine wpD_take (v := (Value.int .i64 (min x104 x105))) 9 (fun _ => True) rfl (by kernel_rfl) (by kernel_rfl) (by kernel_rfl) rfl rfl rfl trivial (fun w _ => (x_min rfl rfl rfl)) ?_
    refine wpD_take (v := (Value.pointer (some ((Addr.mk b26 0 none).add 10)))) 10 (fun _ => True) rfl (by kernel_rfl) (by kernel_rfl) (by kernel_rfl) rfl rfl rfl trivial (fun w _ => (x_fieldAddr rfl e5 FA_24_10)) ?_
    refine wpD_all (rs := [11]) (by kernel_rfl) (by simp) (allD_cons ?_ allD_nil)
    obtain ⟨q106, h⟩ := h
    obtain ⟨w43, hw106⟩ : ∃ u, u = setAll w42 ((Addr.mk b26 0 none).add 10) [(Value.int .i64 (min x102 x103))] 0 := ⟨_, rfl⟩
    replace h := h w43 hw106
    obtain ⟨o8, h⟩ := h
    obtain ⟨o6, h⟩ := h
    refine stepD_skpL (L' := [(9, fun _ => True), (8, fun w => w.cell? ((Addr.mk b2 0 none).add 11) = some (Value.int .i64 x105)), (7, fun _ => True), (6, fun w => w.cell? ((Addr.mk b1 0 none).add 11) = some (Value.int .i64 x104)), (5, fun _ => True)]) (w' := w43) rfl rfl rfl ((x_store (v := (Value.int .i64 (min x102 x103))) rfl rfl rfl SZ_3 (ones (by rfl)) q106).trans (by rw [hw106]; rfl)) (by kernel_rfl) (held_cons trivial (held_cons o8 (held_cons trivial (held_cons o6 (held_cons trivial held_nil))))) ?_
    refine wpD_take (v := (Value.pointer (some ((Addr.mk b26 0 none).add 11)))) 12 (fun _ => True) rfl (by kernel_rfl) (by kernel_rfl) (by kernel_rfl) rfl rfl rfl trivial (fun w _ => (x_fieldAddr rfl e5 FA_24_11)) ?_
    refine wpD_all (rs := [13]) (by kernel_rfl) (by simp) (allD_cons ?_ allD_nil)
    obtain ⟨q107, h⟩ := h
    obtain ⟨w44, hw107⟩ : ∃ u, u = setAll w43 ((Addr.mk b26 0 none).add 11) [(Value.int .i64 (min x104 x105))] 0 := ⟨_, rfl⟩
    replace h := h w44 hw107
    refine stepD_skpL (L' := []) (w' := w44) rfl rfl rfl ((x_store (v := (Value.int .i64 (min x104 x105))) rfl rfl rfl SZ_3 (ones (by rfl)) q107).trans (by rw [hw107]; rfl)) (by kernel_rfl) held_nil ?_
    exact wpD_done (by kernel_rfl) ⟨(), ⟨e2, e3, e4, e5, trivial⟩, h⟩
  clear h
  rintro l108 ρ w45 ⟨e2, e3, e4, e5, -⟩ h
  replace h := hk l108 w45 h
  clear hk
  refine wpC_seq ?_
  refine wpC_region ?_
  refine wpR_val (v := (Value.pointer (some ((Addr.mk b26 0 none).add 12)))) (w' := w45) rfl rfl rfl (x_fieldAddr rfl e5 FA_24_12) ?_
  obtain ⟨q109, h⟩ := h
  obtain ⟨w46, hw109⟩ : ∃ u, u = setAll w45 ((Addr.mk b26 0 none).add 12) [(Sl.v Sl.nil)] 0 := ⟨_, rfl⟩
  replace h := h w46 hw109
  refine wpR_skp (w' := w46) rfl rfl ((x_store (v := (Sl.v Sl.nil)) rfl rfl rfl SZ_22 (ones (by rfl)) q109).trans (by rw [hw109]; rfl)) ?_
  refine wpR_nil ?_
  refine wpC_seq ?_
  refine wpC_seq ?_
  refine wpC_cut (fun ρ => ρ 2 = (Value.pointer (some (Addr.mk b1 0 none))) ∧ ρ 3 = (Value.pointer (some (Addr.mk b2 0 none))) ∧ ρ 4 = (Value.pointer (some (Addr.mk b3 0 none))) ∧ ρ 5 = (Value.pointer (some (Addr.mk b26 0 none))) ∧ True) ⟨e2, e3, e4, e5, trivial⟩ ?_
  rintro ρ ⟨e2, e3, e4, e5, -⟩
  refine wpC_region ?_
  refine wpR_val (v := (Value.pointer (some ((Addr.mk b1 0 none).add 12)))) (w' := w46) rfl rfl rfl (x_fieldAddr rfl e2 FA_24_12) ?_
  obtain ⟨x110, q110, h⟩ := h
  refine wpR_val (v := (Sl.v x110)) (w' := w46) rfl rfl rfl (x_load1 rfl rfl SH_22 q110) ?_
  refine wpR_val (v := (Value.int .i64 (x110.len : Int))) (w' := w46) rfl rfl rfl (x_lenS (s := x110) rfl rfl isSliceT_22) ?_
  refine wpR_val (v := (Value.int .i64 0)) (w' := w46) rfl rfl rfl (x_move (v := (Value.int .i64 0)) rfl rfl) ?_
  refine wpR_nil ?_
  refine wpC_block ?_
  obtain ⟨I111, μ111, hI111, hr111⟩ := h
  refine wpC_loop (fun (x : Int) ρ => ρ 82 = (Value.int .i64 x) ∧ ρ 2 = (Value.pointer (some (Addr.mk b1 0 none))) ∧ ρ 3 = (Value.pointer (some (Addr.mk b2 0 none))) ∧ ρ 4 = (Value.pointer (some (Addr.mk b3 0 none))) ∧ ρ 5 = (Value.pointer (some (Addr.mk b26 0 none))) ∧ ρ 80 = (Sl.v x110) ∧ ρ 81 = (Value.int .i64 (x110.len : Int)) ∧ True) I111 μ111 0 ⟨rfl, e2, e3, e4, e5, rfl, rfl, trivial⟩ hI111 ?_
  rintro l111 ρ w47 ⟨e82, e2, e3, e4, e5, e80, e81, -⟩ h
  replace h := hr111 l111 w47 h
  clear hr111 hI111
  refine wpC_seq ?_
  refine wpC_region ?_
  refine wpR_val (v := (Value.bool (decide (l111 < (x110.len : Int))))) (w' := w47) rfl rfl rfl (x_lss rfl e82 e81) ?_
  refine wpR_nil ?_
  refine wpC_seq ?_
  refine wpC_cond (b := decide (l111 < (x110.len : Int))) rfl (fun hc112 => ?_) (fun hc112 => ?_)
  · replace h := h.1 hc112
    refine wpC_skip ?_
    obtain ⟨J113, h, hk⟩ := h
    refine wpC_seqJ (fun (x : Unit) ρ => ρ 2 = (Value.pointer (some (Addr.mk b1 0 none))) ∧ ρ 3 = (Value.pointer (some (Addr.mk b2 0 none))) ∧ ρ 4 = (Value.pointer (some (Addr.mk b3 0 none))) ∧ ρ 5 = (Value.pointer (some (Addr.mk b26 0 none))) ∧ ρ 80 = (Sl.v x110) ∧ ρ 81 = (Value.int .i64 (x110.len : Int)) ∧ ρ 82 = (Value.int .i64 l111) ∧ True) J113 ?_ ?_
    · clear hk
      refine wpC_block ?_
      refine wpC_seq ?_
      refine wpC_cut (fun ρ => ρ 2 = (Value.pointer (some (Addr.mk b1 0 none))) ∧ ρ 3 = (Value.pointer (some (Addr.mk b2 0 none))) ∧ ρ 4 = (Value.pointer (some (Addr.mk b3 0 none))) ∧ ρ 5 = (Value.pointer (some (Addr.mk b26 0 none))) ∧ ρ 80 = (Sl.v x110) ∧ ρ 81 = (Value.int .i64 (x110.len : Int)) ∧ ρ 82 = (Value.int .i64 l111) ∧ True) ⟨e2, e3, e4, e5, e80, e81, e82, trivial⟩ ?_
      rintro ρ ⟨e2, e3, e4, e5, e80, e81, e82, -⟩
      refine wpC_region ?_
      obtain ⟨q115, z115, r115, h⟩ := h
      generalize hp115 : z115.add ((l111 : Int).toNat * 1) = p115 at h
      refine wpR_val (v := (Value.pointer (some p115))) (w' := w47) rfl rfl rfl ((x_indexAddr (s := x110) rfl e80 e82 ES_22 q115 r115).trans (by rw [hp115])) ?_
      obtain ⟨x116, q116, h⟩ := h
      refine wpR_val (v := (Value.string x116)) (w' := w47) rfl rfl rfl (x_load1 rfl rfl SH_9 q116) ?_
      refine wpR_val (v := (Value.string x116)) (w' := w47) rfl rfl rfl (x_assign (v := (Value.string x116)) rfl rfl) ?_
      refine wpR_nil ?_
      refine wpC_seq ?_
      refine wpC_cut (fun ρ => ρ 2 = (Value.pointer (some (Addr.mk b1 0 none))) ∧ ρ 3 = (Value.pointer (some (Addr.mk b2 0 none))) ∧ ρ 4 = (Value.pointer (some (Addr.mk b3 0 none))) ∧ ρ 5 = (Value.pointer (some (Addr.mk b26 0 none))) ∧ ρ 7 = (Value.string x116) ∧ ρ 80 = (Sl.v x110) ∧ ρ 81 = (Value.int .i64 (x110.len : Int)) ∧ ρ 82 = (Value.int .i64 l111) ∧ True) ⟨e2, e3, e4, e5, rfl, e80, e81, e82, trivial⟩ ?_
      rintro ρ ⟨e2, e3, e4, e5, e7, e80, e81, e82, -⟩
      refine wpC_region ?_
      refine wpR_val (v := (Value.pointer (some ((Addr.mk b2 0 none).add 12)))) (w' := w47) rfl rfl rfl (x_fieldAddr rfl e3 FA_24_12) ?_
      obtain ⟨x117, q117, h⟩ := h
      refine wpR_val (v := (Sl.v x117)) (w' := w47) rfl rfl rfl (x_load1 rfl rfl SH_22 q117) ?_
      refine wpR_val (v := (Value.string x116)) (w' := w47) rfl rfl rfl (x_move (v := (Value.string x116)) rfl e7) ?_
      refine wpR_enter rfl rfl rfl (x_call (vs := [(Sl.v x117), (Value.string x116)]) rfl rfl (mapl_cons rfl (mapl_cons rfl mapl_nil)) Try.func27 NN_27 NB_27) (Calls.mono h ?_)
      rintro _ w49 ⟨r118, rfl, h⟩
      refine ⟨_, rfl, ?_⟩
      refine wpR_nil ?_
      refine wpC_cond (b := r118) rfl (fun hc119 => ?_) (fun hc119 => ?_)
      · replace h := h.1 hc119
        refine wpC_cut (fun ρ => ρ 2 = (Value.pointer (some (Addr.mk b1 0 none))) ∧ ρ 3 = (Value.pointer (some (Addr.mk b2 0 none))) ∧ ρ 4 = (Value.pointer (some (Addr.mk b3 0 none))) ∧ ρ 5 = (Value.pointer (some (Addr.mk b26 0 none))) ∧ ρ 7 = (Value.string x116) ∧ ρ 80 = (Sl.v x110) ∧ ρ 81 = (Value.int .i64 (x110.len : Int)) ∧ ρ 82 = (Value.int .i64 l111) ∧ True) ⟨e2, e3, e4, e5, e7, e80, e81, e82, trivial⟩ ?_
        rintro ρ ⟨e2, e3, e4, e5, e7, e80, e81, e82, -⟩
        refine wpC_region ?_
        refine wpR_val (v := (Value.pointer (some ((Addr.mk b26 0 none).add 12)))) (w' := w49) rfl rfl rfl (x_fieldAddr rfl e5 FA_24_12) ?_
        obtain ⟨x120, q120, h⟩ := h
        refine wpR_val (v := (Sl.v x120)) (w' := w49) rfl rfl rfl (x_load1 rfl rfl SH_22 q120) ?_
        refine wpR_val (v := (Value.string x116)) (w' := w49) rfl rfl rfl (x_move (v := (Value.string x116)) rfl e7) ?_
        obtain ⟨b121, hb121⟩ : ∃ u, u = w49.heap.size := ⟨_, rfl⟩
        obtain ⟨w50, hw121⟩ : ∃ u, u = w49.alloc (.cells #[(Value.string x116)] 9) := ⟨_, rfl⟩
        replace h := h b121 w50 hb121 hw121
        refine wpR_val (v := (Sl.v (⟨some ⟨b121, 0, none⟩, 1, 1⟩ : Sl))) (w' := w50) rfl rfl rfl ((x_buildSlice (qs := [(0, (Value.string x116))]) rfl (by rfl) (BS_22_1_0 x116)).trans (by rw [← hb121, ← hw121])) ?_
        obtain ⟨r122, w51, q122, h⟩ := h
        refine wpR_val (v := (Sl.v r122)) (w' := w51) rfl rfl rfl (x_append (s := x120) (u := (⟨some ⟨b121, 0, none⟩, 1, 1⟩ : Sl)) rfl rfl rfl rfl q122) ?_
        refine wpR_val (v := (Value.pointer (some ((Addr.mk b26 0 none).add 12)))) (w' := w51) rfl rfl rfl (x_fieldAddr rfl e5 FA_24_12) ?_
        obtain ⟨q123, h⟩ := h
        obtain ⟨w52, hw123⟩ : ∃ u, u = setAll w51 ((Addr.mk b26 0 none).add 12) [(Sl.v r122)] 0 := ⟨_, rfl⟩
        replace h := h w52 hw123
        refine wpR_skp (w' := w52) rfl rfl ((x_store (v := (Sl.v r122)) rfl rfl rfl SZ_22 (ones (by rfl)) q123).trans (by rw [hw123]; rfl)) ?_
        refine wpR_nil ?_
        exact ⟨(), ⟨e2, e3, e4, e5, e80, e81, e82, trivial⟩, h⟩
      · replace h := h.2 hc119
        refine wpC_skip ?_
        exact ⟨(), ⟨e2, e3, e4, e5, e80, e81, e82, trivial⟩, h⟩
    clear h
    rintro l114 ρ w48 ⟨e2, e3, e4, e5, e80, e81, e82, -⟩ h
    replace h := hk l114 w48 h
    clear hk
    refine wpC_region ?_
    refine wpR_val (v := (Value.int .i64 (IntKind.i64.wrap (l111 + 1)))) (w' := w48) rfl rfl rfl (x_add rfl e82 rfl) ?_
    refine wpR_val (v := (Value.int .i64 (IntKind.i64.wrap (l111 + 1)))) (w' := w48) rfl rfl rfl (x_move (v := (Value.int .i64 (IntKind.i64.wrap (l111 + 1)))) rfl rfl) ?_
    refine wpR_nil ?_
    exact ⟨IntKind.i64.wrap (l111 + 1), ⟨rfl, e2, e3, e4, e5, e80, e81, trivial⟩, h⟩
  · replace h := h.2 hc112
    refine wpC_exit ?_
    obtain ⟨J124, h, hk⟩ := h
    refine wpC_seqJ (fun (x : Unit) ρ => ρ 2 = (Value.pointer (some (Addr.mk b1 0 none))) ∧ ρ 3 = (Value.pointer (some (Addr.mk b2 0 none))) ∧ ρ 4 = (Value.pointer (some (Addr.mk b3 0 none))) ∧ ρ 5 = (Value.pointer (some (Addr.mk b26 0 none))) ∧ True) J124 ?_ ?_
    · clear hk
      refine wpC_seq ?_
      refine wpC_cut (fun ρ => ρ 2 = (Value.pointer (some (Addr.mk b1 0 none))) ∧ ρ 3 = (Value.pointer (some (Addr.mk b2 0 none))) ∧ ρ 4 = (Value.pointer (some (Addr.mk b3 0 none))) ∧ ρ 5 = (Value.pointer (some (Addr.mk b26 0 none))) ∧ True) ⟨e2, e3, e4, e5, trivial⟩ ?_
      rintro ρ ⟨e2, e3, e4, e5, -⟩
      refine wpC_region ?_
      refine wpR_val (v := (Value.pointer (some ((Addr.mk b26 0 none).add 10)))) (w' := w47) rfl rfl rfl (x_fieldAddr rfl e5 FA_24_10) ?_
      obtain ⟨x126, q126, h⟩ := h
      refine wpR_val (v := (Value.int .i64 x126)) (w' := w47) rfl rfl rfl (x_load1 rfl rfl SH_3 q126) ?_
      refine wpR_val (v := (Value.bool (decide (x126 = 0)))) (w' := w47) rfl rfl rfl (x_eql rfl rfl rfl) ?_
      refine wpR_val (v := (Value.bool (decide (x126 = 0)))) (w' := w47) rfl rfl rfl (x_move (v := (Value.bool (decide (x126 = 0)))) rfl rfl) ?_
      obtain ⟨J127, h, hk⟩ := h
      refine wpR_joinJ 4 (fun x ρ => ρ 104 = Value.bool x ∧ ρ 2 = (Value.pointer (some (Addr.mk b1 0 none))) ∧ ρ 3 = (Value.pointer (some (Addr.mk b2 0 none))) ∧ ρ 4 = (Value.pointer (some (Addr.mk b3 0 none))) ∧ ρ 5 = (Value.pointer (some (Addr.mk b26 0 none))) ∧ True) (fun x w => J127 x ∧ w47 = w) ?_ ?_
      · clear hk
        rcases Bool.eq_false_or_eq_true (decide (x126 = 0)) with hc128 | hc128
        · replace h := h.1 hc128
          refine wpR_pass (wantN rfl rfl rfl hc128) rfl rfl ?_
          refine wpR_pass (wantN rfl rfl rfl hc128) rfl rfl ?_
          refine wpR_pass (wantN rfl rfl rfl hc128) rfl rfl ?_
          refine wpR_val (v := (Value.bool true)) (w' := w47) rfl rfl rfl (x_pickT (v := (Value.bool true)) rfl rfl hc128 rfl) ?_
          refine wpR_nil ?_
          exact ⟨true, ⟨rfl, e2, e3, e4, e5, trivial⟩, h, rfl⟩
        · replace h := h.2 hc128
          refine wpR_val (v := (Value.pointer (some ((Addr.mk b26 0 none).add 11)))) (w' := w47) (wantG rfl rfl rfl hc128) rfl rfl (x_fieldAddr rfl e5 FA_24_11) ?_
          obtain ⟨x129, q129, h⟩ := h
          refine wpR_val (v := (Value.int .i64 x129)) (w' := w47) (wantG rfl rfl rfl hc128) rfl rfl (x_load1 rfl rfl SH_3 q129) ?_
          refine wpR_val (v := (Value.bool (decide (x129 = 0)))) (w' := w47) (wantG rfl rfl rfl hc128) rfl rfl (x_eql rfl rfl rfl) ?_
          refine wpR_val (v := (Value.bool (decide (x129 = 0)))) (w' := w47) rfl rfl rfl (x_pickF (v := (Value.bool (decide (x129 = 0)))) rfl rfl hc128 rfl) ?_
          refine wpR_nil ?_
          exact ⟨decide (x129 = 0), ⟨rfl, e2, e3, e4, e5, trivial⟩, h, rfl⟩
      clear h
      rintro c130 ρ wj ⟨e104, e2, e3, e4, e5, -⟩ ⟨h, rfl⟩
      replace h := hk c130 h
      clear hk
      refine wpR_val (v := (Value.bool c130)) (w' := w47) rfl rfl rfl (x_move (v := (Value.bool c130)) rfl e104) ?_
      obtain ⟨J131, h, hk⟩ := h
      refine wpR_joinJ 5 (fun x ρ => ρ 110 = Value.bool x ∧ ρ 2 = (Value.pointer (some (Addr.mk b1 0 none))) ∧ ρ 3 = (Value.pointer (some (Addr.mk b2 0 none))) ∧ ρ 4 = (Value.pointer (some (Addr.mk b3 0 none))) ∧ ρ 5 = (Value.pointer (some (Addr.mk b26 0 none))) ∧ True) (fun x w => J131 x ∧ w47 = w) ?_ ?_
      · clear hk
        rcases Bool.eq_false_or_eq_true (c130) with hc132 | hc132
        · replace h := h.1 hc132
          refine wpR_pass (wantN rfl rfl rfl hc132) rfl rfl ?_
          refine wpR_pass (wantN rfl rfl rfl hc132) rfl rfl ?_
          refine wpR_pass (wantN rfl rfl rfl hc132) rfl rfl ?_
          refine wpR_pass (wantN rfl rfl rfl hc132) rfl rfl ?_
          refine wpR_val (v := (Value.bool true)) (w' := w47) rfl rfl rfl (x_pickT (v := (Value.bool true)) rfl rfl hc132 rfl) ?_
          refine wpR_nil ?_
          exact ⟨true, ⟨rfl, e2, e3, e4, e5, trivial⟩, h, rfl⟩
        · replace h := h.2 hc132
          refine wpR_val (v := (Value.pointer (some ((Addr.mk b26 0 none).add 12)))) (w' := w47) (wantG rfl rfl rfl hc132) rfl rfl (x_fieldAddr rfl e5 FA_24_12) ?_
          obtain ⟨x133, q133, h⟩ := h
          refine wpR_val (v := (Sl.v x133)) (w' := w47) (wantG rfl rfl rfl hc132) rfl rfl (x_load1 rfl rfl SH_22 q133) ?_
          refine wpR_val (v := (Value.int .i64 (x133.len : Int))) (w' := w47) (wantG rfl rfl rfl hc132) rfl rfl (x_lenS (s := x133) rfl rfl isSliceT_22) ?_
          refine wpR_val (v := (Value.bool (decide ((x133.len : Int) = 0)))) (w' := w47) (wantG rfl rfl rfl hc132) rfl rfl (x_eql rfl rfl rfl) ?_
          refine wpR_val (v := (Value.bool (decide ((x133.len : Int) = 0)))) (w' := w47) rfl rfl rfl (x_pickF (v := (Value.bool (decide ((x133.len : Int) = 0)))) rfl rfl hc132 rfl) ?_
          refine wpR_nil ?_
          exact ⟨decide ((x133.len : Int) = 0), ⟨rfl, e2, e3, e4, e5, trivial⟩, h, rfl⟩
      clear h
      rintro c134 ρ wj ⟨e110, e2, e3, e4, e5, -⟩ ⟨h, rfl⟩
      replace h := hk c134 h
      clear hk
      refine wpR_nil ?_
      refine wpC_cond (b := c134) e110 (fun hc135 => ?_) (fun hc135 => ?_)
      · replace h := h.1 hc135
        refine wpC_region ?_
        refine wpR_val (v := (Value.pointer (some ((Addr.mk b26 0 none).add 10)))) (w' := w47) rfl rfl rfl (x_fieldAddr rfl e5 FA_24_10) ?_
        obtain ⟨q136, h⟩ := h
        obtain ⟨w54, hw136⟩ : ∃ u, u = setAll w47 ((Addr.mk b26 0 none).add 10) [(Value.int .i64 0)] 0 := ⟨_, rfl⟩
        replace h := h w54 hw136
        refine wpR_skp (w' := w54) rfl rfl ((x_store (v := (Value.int .i64 0)) rfl rfl rfl SZ_3 (ones (by rfl)) q136).trans (by rw [hw136]; rfl)) ?_
        refine wpR_val (v := (Value.pointer (some ((Addr.mk b26 0 none).add 11)))) (w' := w54) rfl rfl rfl (x_fieldAddr rfl e5 FA_24_11) ?_
        obtain ⟨q137, h⟩ := h
        obtain ⟨w55, hw137⟩ : ∃ u, u = setAll w54 ((Addr.mk b26 0 none).add 11) [(Value.int .i64 0)] 0 := ⟨_, rfl⟩
        replace h := h w55 hw137
        refine wpR_skp (w' := w55) rfl rfl ((x_store (v := (Value.int .i64 0)) rfl rfl rfl SZ_3 (ones (by rfl)) q137).trans (by rw [hw137]; rfl)) ?_
        refine wpR_val (v := (Value.pointer (some ((Addr.mk b26 0 none).add 12)))) (w' := w55) rfl rfl rfl (x_fieldAddr rfl e5 FA_24_12) ?_
        obtain ⟨q138, h⟩ := h
        obtain ⟨w56, hw138⟩ : ∃ u, u = setAll w55 ((Addr.mk b26 0 none).add 12) [(Sl.v Sl.nil)] 0 := ⟨_, rfl⟩
        replace h := h w56 hw138
        refine wpR_skp (w' := w56) rfl rfl ((x_store (v := (Sl.v Sl.nil)) rfl rfl rfl SZ_22 (ones (by rfl)) q138).trans (by rw [hw138]; rfl)) ?_
        refine wpR_nil ?_
        exact ⟨(), ⟨e2, e3, e4, e5, trivial⟩, h⟩
      · replace h := h.2 hc135
        refine wpC_skip ?_
        exact ⟨(), ⟨e2, e3, e4, e5, trivial⟩, h⟩
    clear h
    rintro l125 ρ w53 ⟨e2, e3, e4, e5, -⟩ h
    replace h := hk l125 w53 h
    clear hk
    obtain ⟨J139, h, hk⟩ := h
    refine wpC_seqJ (fun (x : Unit) ρ => ρ 4 = (Value.pointer (some (Addr.mk b3 0 none))) ∧ ρ 5 = (Value.pointer (some (Addr.mk b26 0 none))) ∧ True) J139 ?_ ?_
    · clear hk
      refine wpC_block ?_
      refine wpC_seq ?_
      refine wpC_region ?_
      refine wpR_val (v := (Value.pointer (some ((Addr.mk b26 0 none).add 1)))) (w' := w53) rfl rfl rfl (x_fieldAddr rfl e5 FA_24_1) ?_
      obtain ⟨x141, q141, h⟩ := h
      refine wpR_val (v := (Value.int .i64 x141)) (w' := w53) rfl rfl rfl (x_load1 rfl rfl SH_3 q141) ?_
      refine wpR_val (v := (Value.bool (decide (x141 = 0)))) (w' := w53) rfl rfl rfl (x_eql rfl rfl rfl) ?_
      refine wpR_val (v := (Value.bool (decide (x141 = 0)))) (w' := w53) rfl rfl rfl (x_assign (v := (Value.bool (decide (x141 = 0)))) rfl rfl) ?_
      refine wpR_nil ?_
      refine wpC_cond (b := decide (x141 = 0)) rfl (fun hc142 => ?_) (fun hc142 => ?_)
      · replace h := h.1 hc142
        refine wpC_cut (fun ρ => ρ 4 = (Value.pointer (some (Addr.mk b3 0 none))) ∧ ρ 5 = (Value.pointer (some (Addr.mk b26 0 none))) ∧ True) ⟨e4, e5, trivial⟩ ?_
        rintro ρ ⟨e4, e5, -⟩
        refine wpC_region ?_
        refine wpR_val (v := (Value.pointer (some ((Addr.mk b26 0 none).add 2)))) (w' := w53) rfl rfl rfl (x_fieldAddr rfl e5 FA_24_2) ?_
        obtain ⟨q143, h⟩ := h
        obtain ⟨w58, hw143⟩ : ∃ u, u = setAll w53 ((Addr.mk b26 0 none).add 2) [(Value.int .i64 0)] 0 := ⟨_, rfl⟩
        replace h := h w58 hw143
        refine wpR_skp (w' := w58) rfl rfl ((x_store (v := (Value.int .i64 0)) rfl rfl rfl SZ_3 (ones (by rfl)) q143).trans (by rw [hw143]; rfl)) ?_
        refine wpR_nil ?_
        exact ⟨(), ⟨e4, e5, trivial⟩, h⟩
      · replace h := h.2 hc142
        refine wpC_seq ?_
        refine wpC_cut (fun ρ => ρ 2 = (Value.pointer (some (Addr.mk b1 0 none))) ∧ ρ 3 = (Value.pointer (some (Addr.mk b2 0 none))) ∧ ρ 4 = (Value.pointer (some (Addr.mk b3 0 none))) ∧ ρ 5 = (Value.pointer (some (Addr.mk b26 0 none))) ∧ True) ⟨e2, e3, e4, e5, trivial⟩ ?_
        rintro ρ ⟨e2, e3, e4, e5, -⟩
        refine wpC_region ?_
        refine wpR_val (v := (Value.pointer (some ((Addr.mk b1 0 none).add 2)))) (w' := w53) rfl rfl rfl (x_fieldAddr rfl e2 FA_24_2) ?_
        obtain ⟨x144, q144, h⟩ := h
        refine wpR_val (v := (Value.int .i64 x144)) (w' := w53) rfl rfl rfl (x_load1 rfl rfl SH_3 q144) ?_
        refine wpR_val (v := (Value.bool (decide (x144 = 0)))) (w' := w53) rfl rfl rfl (x_eql rfl rfl rfl) ?_
        refine wpR_val (v := (Value.bool (decide (x144 = 0)))) (w' := w53) rfl rfl rfl (x_assign (v := (Value.bool (decide (x144 = 0)))) rfl rfl) ?_
        refine wpR_nil ?_
        refine wpC_cond (b := decide (x144 = 0)) rfl (fun hc145 => ?_) (fun hc145 => ?_)
        · replace h := h.1 hc145
          refine wpC_cut (fun ρ => ρ 3 = (Value.pointer (some (Addr.mk b2 0 none))) ∧ ρ 4 = (Value.pointer (some (Addr.mk b3 0 none))) ∧ ρ 5 = (Value.pointer (some (Addr.mk b26 0 none))) ∧ True) ⟨e3, e4, e5, trivial⟩ ?_
          rintro ρ ⟨e3, e4, e5, -⟩
          refine wpC_region ?_
          refine wpR_val (v := (Value.pointer (some ((Addr.mk b2 0 none).add 2)))) (w' := w53) rfl rfl rfl (x_fieldAddr rfl e3 FA_24_2) ?_
          obtain ⟨x146, q146, h⟩ := h
          refine wpR_val (v := (Value.int .i64 x146)) (w' := w53) rfl rfl rfl (x_load1 rfl rfl SH_3 q146) ?_
          refine wpR_val (v := (Value.pointer (some ((Addr.mk b26 0 none).add 2)))) (w' := w53) rfl rfl rfl (x_fieldAddr rfl e5 FA_24_2) ?_
          obtain ⟨q147, h⟩ := h
          obtain ⟨w59, hw147⟩ : ∃ u, u = setAll w53 ((Addr.mk b26 0 none).add 2) [(Value.int .i64 x146)] 0 := ⟨_, rfl⟩
          replace h := h w59 hw147
          refine wpR_skp (w' := w59) rfl rfl ((x_store (v := (Value.int .i64 x146)) rfl rfl rfl SZ_3 (ones (by rfl)) q147).trans (by rw [hw147]; rfl)) ?_
          refine wpR_nil ?_
          exact ⟨(), ⟨e4, e5, trivial⟩, h⟩
        · replace h := h.2 hc145
          refine wpC_seq ?_
          refine wpC_cut (fun ρ => ρ 2 = (Value.pointer (some (Addr.mk b1 0 none))) ∧ ρ 3 = (Value.pointer (some (Addr.mk b2 0 none))) ∧ ρ 4 = (Value.pointer (some (Addr.mk b3 0 none))) ∧ ρ 5 = (Value.pointer (some (Addr.mk b26 0 none))) ∧ True) ⟨e2, e3, e4, e5, trivial⟩ ?_
          rintro ρ ⟨e2, e3, e4, e5, -⟩
          refine wpC_region ?_
          refine wpR_val (v := (Value.pointer (some ((Addr.mk b2 0 none).add 2)))) (w' := w53) rfl rfl rfl (x_fieldAddr rfl e3 FA_24_2) ?_
          obtain ⟨x148, q148, h⟩ := h
          refine wpR_val (v := (Value.int .i64 x148)) (w' := w53) rfl rfl rfl (x_load1 rfl rfl SH_3 q148) ?_
          refine wpR_val (v := (Value.bool (decide (x148 = 0)))) (w' := w53) rfl rfl rfl (x_eql rfl rfl rfl) ?_
          refine wpR_val (v := (Value.bool (decide (x148 = 0)))) (w' := w53) rfl rfl rfl (x_assign (v := (Value.bool (decide (x148 = 0)))) rfl rfl) ?_
          refine wpR_nil ?_
          refine wpC_cond (b := decide (x148 = 0)) rfl (fun hc149 => ?_) (fun hc149 => ?_)
          · replace h := h.1 hc149
            refine wpC_cut (fun ρ => ρ 2 = (Value.pointer (some (Addr.mk b1 0 none))) ∧ ρ 4 = (Value.pointer (some (Addr.mk b3 0 none))) ∧ ρ 5 = (Value.pointer (some (Addr.mk b26 0 none))) ∧ True) ⟨e2, e4, e5, trivial⟩ ?_
            rintro ρ ⟨e2, e4, e5, -⟩
            refine wpC_region ?_
            refine wpR_val (v := (Value.pointer (some ((Addr.mk b1 0 none).add 2)))) (w' := w53) rfl rfl rfl (x_fieldAddr rfl e2 FA_24_2) ?_
            obtain ⟨x150, q150, h⟩ := h
            refine wpR_val (v := (Value.int .i64 x150)) (w' := w53) rfl rfl rfl (x_load1 rfl rfl SH_3 q150) ?_
            refine wpR_val (v := (Value.pointer (some ((Addr.mk b26 0 none).add 2)))) (w' := w53) rfl rfl rfl (x_fieldAddr rfl e5 FA_24_2) ?_
            obtain ⟨q151, h⟩ := h
            obtain ⟨w60, hw151⟩ : ∃ u, u = setAll w53 ((Addr.mk b26 0 none).add 2) [(Value.int .i64 x150)] 0 := ⟨_, rfl⟩
            replace h := h w60 hw151
            refine wpR_skp (w' := w60) rfl rfl ((x_store (v := (Value.int .i64 x150)) rfl rfl rfl SZ_3 (ones (by rfl)) q151).trans (by rw [hw151]; rfl)) ?_
            refine wpR_nil ?_
            exact ⟨(), ⟨e4, e5, trivial⟩, h⟩
          · replace h := h.2 hc149
            refine wpC_cut (fun ρ => ρ 2 = (Value.pointer (some (Addr.mk b1 0 none))) ∧ ρ 3 = (Value.pointer (some (Addr.mk b2 0 none))) ∧ ρ 4 = (Value.pointer (some (Addr.mk b3 0 none))) ∧ ρ 5 = (Value.pointer (some (Addr.mk b26 0 none))) ∧ True) ⟨e2, e3, e4, e5, trivial⟩ ?_
            rintro ρ ⟨e2, e3, e4, e5, -⟩
            refine wpC_region ?_
            refine wpR_val (v := (Value.pointer (some ((Addr.mk b1 0 none).add 2)))) (w' := w53) rfl rfl rfl (x_fieldAddr rfl e2 FA_24_2) ?_
            obtain ⟨x152, q152, h⟩ := h
            refine wpR_val (v := (Value.int .i64 x152)) (w' := w53) rfl rfl rfl (x_load1 rfl rfl SH_3 q152) ?_
            refine wpR_val (v := (Value.pointer (some ((Addr.mk b2 0 none).add 2)))) (w' := w53) rfl rfl rfl (x_fieldAddr rfl e3 FA_24_2) ?_
            obtain ⟨x153, q153, h⟩ := h
            refine wpR_val (v := (Value.int .i64 x153)) (w' := w53) rfl rfl rfl (x_load1 rfl rfl SH_3 q153) ?_
            refine wpR_val (v := (Value.int .i64 (min x152 x153))) (w' := w53) rfl rfl rfl (x_min rfl rfl rfl) ?_
            refine wpR_val (v := (Value.pointer (some ((Addr.mk b26 0 none).add 2)))) (w' := w53) rfl rfl rfl (x_fieldAddr rfl e5 FA_24_2) ?_
            obtain ⟨q154, h⟩ := h
            obtain ⟨w61, hw154⟩ : ∃ u, u = setAll w53 ((Addr.mk b26 0 none).add 2) [(Value.int .i64 (min x152 x153))] 0 := ⟨_, rfl⟩
            replace h := h w61 hw154
            refine wpR_skp (w' := w61) rfl rfl ((x_store (v := (Value.int .i64 (min x152 x153))) rfl rfl rfl SZ_3 (ones (by rfl)) q154).trans (by rw [hw154]; rfl)) ?_
            refine wpR_nil ?_
            exact ⟨(), ⟨e4, e5, trivial⟩, h⟩
    clear h
    rintro l140 ρ w57 ⟨e4, e5, -⟩ h
    replace h := hk l140 w57 h
    clear hk
    refine wpC_seq ?_
    refine wpC_region ?_
    obtain ⟨x155, q155, x156, q156, x157, q157, x158, q158, x159, q159, x160, q160, x161, q161, x162, q162, x163, q163, x164, q164, x165, q165, x166, q166, x167, q167, x168, q168, x169, q169, x170, q170, x171, q171, x172, q172, x173, q173, x174, q174, x175, q175, x176, q176, h⟩ := h
    refine wpR_val (v := (V23 x155 x156 x157 x158 x159 x160 x161 x162 x163 x164 x165 x166 x167 x168 x169 x170 x171 x172 x173 x174 x175 x176)) (w' := w57) rfl rfl rfl (x_loadN (S23 x155 x156 x157 x158 x159 x160 x161 x162 x163 x164 x165 x166 x167 x168 x169 x170 x171 x172 x173 x174 x175 x176) rfl e5 SH_24 (K23 ⟨q155, q156, q157, q158, q159, q160, q161, q162, q163, q164, q165, q166, q167, q168, q169, q170, q171, q172, q173, q174, q175, q176⟩)) ?_
    obtain ⟨q177, h⟩ := h
    obtain ⟨w62, hw177⟩ : ∃ u, u = setAll w57 (Addr.mk b3 0 none) (S23 x155 x156 x157 x158 x159 x160 x161 x162 x163 x164 x165 x166 x167 x168 x169 x170 x171 x172 x173 x174 x175 x176) 0 := ⟨_, rfl⟩
    replace h := h w62 hw177
    refine wpR_skp (w' := w62) rfl rfl ((x_store (v := (V23 x155 x156 x157 x158 x159 x160 x161 x162 x163 x164 x165 x166 x167 x168 x169 x170 x171 x172 x173 x174 x175 x176)) rfl e4 rfl SZ_24 (ones (by rfl)) q177).trans (by rw [hw177]; rfl)) ?_
    refine wpR_nil ?_
    refine wpC_ret ?_
    obtain ⟨x178, q178, x179, q179, x180, q180, x181, q181, x182, q182, x183, q183, x184, q184, x185, q185, x186, q186, x187, q187, x188, q188, x189, q189, x190, q190, x191, q191, x192, q192, x193, q193, x194, q194, x195, q195, x196, q196, x197, q197, x198, q198, x199, q199, h⟩ := h
    exact ⟨.inl rfl, fun a ha => ⟨_, results_repC (S23 x178 x179 x180 x181 x182 x183 x184 x185 x186 x187 x188 x189 x190 x191 x192 x193 x194 x195 x196 x197 x198 x199) rfl ha e4 SH_24 (K23 ⟨q178, q179, q180, q181, q182, q183, q184, q185, q186, q187, q188, q189, q190, q191, q192, q193, q194, q195, q196, q197, q198, q199⟩), (x178, x179, x180, x181, x182, x183, x184, x185, x186, x187, x188, x189, x190, x191, x192, x193, x194, x195, x196, x197, x198, x199), rfl, h⟩⟩

/-- profile.Join -/
def F17 (p0_0 : ByteArray) (p0_1 : Int) (p0_2 : Int) (p0_3 : Int) (p0_4 : Bool) (p0_5 : Int) (p0_6 : Bool) (p0_7 : Bool) (p0_8 : Int) (p0_9 : Int) (p0_10 : Int) (p0_11 : Int) (p0_12 : Sl) (p0_13 : Int) (p0_14 : Int) (p0_15 : Int) (p0_16 : Int) (p0_17 : Bool) (p0_18 : Int) (p0_19 : Int) (p0_20 : Int) (p0_21 : Int) (p1_0 : ByteArray) (p1_1 : Int) (p1_2 : Int) (p1_3 : Int) (p1_4 : Bool) (p1_5 : Int) (p1_6 : Bool) (p1_7 : Bool) (p1_8 : Int) (p1_9 : Int) (p1_10 : Int) (p1_11 : Int) (p1_12 : Sl) (p1_13 : Int) (p1_14 : Int) (p1_15 : Int) (p1_16 : Int) (p1_17 : Bool) (p1_18 : Int) (p1_19 : Int) (p1_20 : Int) (p1_21 : Int) (w0 : World) (K : T23 → World → Prop) : Prop :=
  nw 24 (A23 p0_0 p0_1 p0_2 p0_3 p0_4 p0_5 p0_6 p0_7 p0_8 p0_9 p0_10 p0_11 p0_12 p0_13 p0_14 p0_15 p0_16 p0_17 p0_18 p0_19 p0_20 p0_21) w0 fun b1 w1 =>
  nw 24 (A23 p1_0 p1_1 p1_2 p1_3 p1_4 p1_5 p1_6 p1_7 p1_8 p1_9 p1_10 p1_11 p1_12 p1_13 p1_14 p1_15 p1_16 p1_17 p1_18 p1_19 p1_20 p1_21) w1 fun b2 w2 =>
  nw 24 (A23 (ByteArray.mk #[]) 0 0 0 false 0 false false 0 0 0 0 Sl.nil 0 0 0 0 false 0 0 0 0) w2 fun b3 w3 =>
  L23 (Addr.mk b1 0 none) w3 fun x4 x5 x6 x7 x8 x9 x10 x11 x12 x13 x14 x15 x16 x17 x18 x19 x20 x21 x22 x23 x24 x25 =>
  nw 24 (A23 (ByteArray.mk #[]) 0 0 0 false 0 false false 0 0 0 0 Sl.nil 0 0 0 0 false 0 0 0 0) w3 fun b26 w4 =>
  st (Addr.mk b26 0 none) (S23 x4 x5 x6 x7 x8 x9 x10 x11 x12 x13 x14 x15 x16 x17 x18 x19 x20 x21 x22 x23 x24 x25) w4 fun w5 =>
  jn (fun (J29 : Unit → World → Prop) => tk w5 fun w6 =>
    ld (Value.int .i64) ((Addr.mk b1 0 none).add 1) w6 fun x30 =>
    ld (Value.int .i64) ((Addr.mk b2 0 none).add 1) w6 fun x31 =>
    ld (Value.int .i64) ((Addr.mk b1 0 none).add 3) w6 fun x32 =>
    ld (Value.int .i64) ((Addr.mk b2 0 none).add 3) w6 fun x33 =>
    ld (Value.int .i64) ((Addr.mk b1 0 none).add 5) w6 fun x34 =>
    ld (Value.int .i64) ((Addr.mk b2 0 none).add 5) w6 fun x35 =>
    st ((Addr.mk b26 0 none).add 1) [(Value.int .i64 (max x30 x31))] w6 fun w7 =>
    (w7.cell? ((Addr.mk b2 0 none).add 5) = some (Value.int .i64 x35)) ∧
    (w7.cell? ((Addr.mk b1 0 none).add 5) = some (Value.int .i64 x34)) ∧
    (w7.cell? ((Addr.mk b2 0 none).add 3) = some (Value.int .i64 x33)) ∧
    (w7.cell? ((Addr.mk b1 0 none).add 3) = some (Value.int .i64 x32)) ∧
    st ((Addr.mk b26 0 none).add 3) [(Value.int .i64 (max x32 x33))] w7 fun w8 =>
    (w8.cell? ((Addr.mk b2 0 none).add 5) = some (Value.int .i64 x35)) ∧
    (w8.cell? ((Addr.mk b1 0 none).add 5) = some (Value.int .i64 x34)) ∧
    st ((Addr.mk b26 0 none).add 5) [(Value.int .i64 (max x34 x35))] w8 fun w9 =>
    J29 () w9
  )
  fun _l39 w10 =>
  jn (fun (J41 : Unit → World → Prop) => tk w10 fun w11 =>
    ld Value.bool ((Addr.mk b1 0 none).add 4) w11 fun x42 =>
    cnd (x42)
      (
      ld Value.bool ((Addr.mk b1 0 none).add 6) w11 fun x44 =>
      cnd (x44)
        (
        ld Value.bool ((Addr.mk b1 0 none).add 7) w11 fun x46 =>
        cnd (x46)
          (
          st ((Addr.mk b26 0 none).add 4) [(Value.bool true)] w11 fun w12 =>
          (w12.cell? ((Addr.mk b1 0 none).add 7) = some (Value.bool x46)) ∧
          (w12.cell? ((Addr.mk b1 0 none).add 6) = some (Value.bool x44)) ∧
          st ((Addr.mk b26 0 none).add 6) [(Value.bool true)] w12 fun w13 =>
          (w13.cell? ((Addr.mk b1 0 none).add 7) = some (Value.bool x46)) ∧
          st ((Addr.mk b26 0 none).add 7) [(Value.bool true)] w13 fun w14 =>
          J41 () w14
          )
          (
          ld Value.bool ((Addr.mk b2 0 none).add 7) w11 fun x51 =>
          st ((Addr.mk b26 0 none).add 4) [(Value.bool true)] w11 fun w15 =>
          (w15.cell? ((Addr.mk b2 0 none).add 7) = some (Value.bool x51)) ∧
          (w15.cell? ((Addr.mk b1 0 none).add 7) = some (Value.bool x46)) ∧
          (w15.cell? ((Addr.mk b1 0 none).add 6) = some (Value.bool x44)) ∧
          st ((Addr.mk b26 0 none).add 6) [(Value.bool true)] w15 fun w16 =>
          (w16.cell? ((Addr.mk b2 0 none).add 7) = some (Value.bool x51)) ∧
          (w16.cell? ((Addr.mk b1 0 none).add 7) = some (Value.bool x46)) ∧
          st ((Addr.mk b26 0 none).add 7) [(Value.bool x51)] w16 fun w17 =>
          J41 () w17
          )
        )
        (
        ld Value.bool ((Addr.mk b2 0 none).add 6) w11 fun x55 =>
        ld Value.bool ((Addr.mk b1 0 none).add 7) w11 fun x56 =>
        cnd (x56)
          (
          st ((Addr.mk b26 0 none).add 4) [(Value.bool true)] w11 fun w18 =>
          (w18.cell? ((Addr.mk b1 0 none).add 7) = some (Value.bool x56)) ∧
          (w18.cell? ((Addr.mk b2 0 none).add 6) = some (Value.bool x55)) ∧
          (w18.cell? ((Addr.mk b1 0 none).add 6) = some (Value.bool x44)) ∧
          st ((Addr.mk b26 0 none).add 6) [(Value.bool x55)] w18 fun w19 =>
          (w19.cell? ((Addr.mk b1 0 none).add 7) = some (Value.bool x56)) ∧
          st ((Addr.mk b26 0 none).add 7) [(Value.bool true)] w19 fun w20 =>
          J41 () w20
          )
          (
          ld Value.bool ((Addr.mk b2 0 none).add 7) w11 fun x61 =>
          st ((Addr.mk b26 0 none).add 4) [(Value.bool true)] w11 fun w21 =>
          (w21.cell? ((Addr.mk b2 0 none).add 7) = some (Value.bool x61)) ∧
          (w21.cell? ((Addr.mk b1 0 none).add 7) = some (Value.bool x56)) ∧
          (w21.cell? ((Addr.mk b2 0 none).add 6) = some (Value.bool x55)) ∧
          (w21.cell? ((Addr.mk b1 0 none).add 6) = some (Value.bool x44)) ∧
          st ((Addr.mk b26 0 none).add 6) [(Value.bool x55)] w21 fun w22 =>
          (w22.cell? ((Addr.mk b2 0 none).add 7) = some (Value.bool x61)) ∧
          (w22.cell? ((Addr.mk b1 0 none).add 7) = some (Value.bool x56)) ∧
          st ((Addr.mk b26 0 none).add 7) [(Value.bool x61)] w22 fun w23 =>
          J41 () w23
          )
        )
      )
      (
      ld Value.bool ((Addr.mk b2 0 none).add 4) w11 fun x65 =>
      ld Value.bool ((Addr.mk b1 0 none).add 6) w11 fun x66 =>
      cnd (x66)
        (
        ld Value.bool ((Addr.mk b1 0 none).add 7) w11 fun x68 =>
        cnd (x68)
          (
          st ((Addr.mk b26 0 none).add 4) [(Value.bool x65)] w11 fun w24 =>
          (w24.cell? ((Addr.mk b1 0 none).add 7) = some (Value.bool x68)) ∧
          (w24.cell? ((Addr.mk b1 0 none).add 6) = some (Value.bool x66)) ∧
          st ((Addr.mk b26 0 none).add 6) [(Value.bool true)] w24 fun w25 =>
          (w25.cell? ((Addr.mk b1 0 none).add 7) = some (Value.bool x68)) ∧
          st ((Addr.mk b26 0 none).add 7) [(Value.bool true)] w25 fun w26 =>
          J41 () w26
          )
          (
          ld Value.bool ((Addr.mk b2 0 none).add 7) w11 fun x73 =>
          st ((Addr.mk b26 0 none).add 4) [(Value.bool x65)] w11 fun w27 =>
          (w27.cell? ((Addr.mk b2 0 none).add 7) = some (Value.bool x73)) ∧
          (w27.cell? ((Addr.mk b1 0 none).add 7) = some (Value.bool x68)) ∧
          (w27.cell? ((Addr.mk b1 0 none).add 6) = some (Value.bool x66)) ∧
          st ((Addr.mk b26 0 none).add 6) [(Value.bool true)] w27 fun w28 =>
          (w28.cell? ((Addr.mk b2 0 none).add 7) = some (Value.bool x73)) ∧
          (w28.cell? ((Addr.mk b1 0 none).add 7) = some (Value.bool x68)) ∧
          st ((Addr.mk b26 0 none).add 7) [(Value.bool x73)] w28 fun w29 =>
          J41 () w29
          )
        )
        (
        ld Value.bool ((Addr.mk b2 0 none).add 6) w11 fun x77 =>
        ld Value.bool ((Addr.mk b1 0 none).add 7) w11 fun x78 =>
        cnd (x78)
          (
          st ((Addr.mk b26 0 none).add 4) [(Value.bool x65)] w11 fun w30 =>
          (w30.cell? ((Addr.mk b1 0 none).add 7) = some (Value.bool x78)) ∧
          (w30.cell? ((Addr.mk b2 0 none).add 6) = some (Value.bool x77)) ∧
          (w30.cell? ((Addr.mk b1 0 none).add 6) = some (Value.bool x66)) ∧
          st ((Addr.mk b26 0 none).add 6) [(Value.bool x77)] w30 fun w31 =>
          (w31.cell? ((Addr.mk b1 0 none).add 7) = some (Value.bool x78)) ∧
          st ((Addr.mk b26 0 none).add 7) [(Value.bool true)] w31 fun w32 =>
          J41 () w32
          )
          (
          ld Value.bool ((Addr.mk b2 0 none).add 7) w11 fun x83 =>
          st ((Addr.mk b26 0 none).add 4) [(Value.bool x65)] w11 fun w33 =>
          (w33.cell? ((Addr.mk b2 0 none).add 7) = some (Value.bool x83)) ∧
          (w33.cell? ((Addr.mk b1 0 none).add 7) = some (Value.bool x78)) ∧
          (w33.cell? ((Addr.mk b2 0 none).add 6) = some (Value.bool x77)) ∧
          (w33.cell? ((Addr.mk b1 0 none).add 6) = some (Value.bool x66)) ∧
          st ((Addr.mk b26 0 none).add 6) [(Value.bool x77)] w33 fun w34 =>
          (w34.cell? ((Addr.mk b2 0 none).add 7) = some (Value.bool x83)) ∧
          (w34.cell? ((Addr.mk b1 0 none).add 7) = some (Value.bool x78)) ∧
          st ((Addr.mk b26 0 none).add 7) [(Value.bool x83)] w34 fun w35 =>
          J41 () w35
          )
        )
      )
  )
  fun _l87 w36 =>
  jn (fun (J89 : Unit → World → Prop) => tk w36 fun w37 =>
    ld (Value.int .i64) ((Addr.mk b1 0 none).add 8) w37 fun x90 =>
    ld (Value.int .i64) ((Addr.mk b2 0 none).add 8) w37 fun x91 =>
    ld (Value.int .i64) ((Addr.mk b1 0 none).add 9) w37 fun x92 =>
    ld (Value.int .i64) ((Addr.mk b2 0 none).add 9) w37 fun x93 =>
    ld (Value.int .i64) ((Addr.mk b1 0 none).add 16) w37 fun x94 =>
    ld (Value.int .i64) ((Addr.mk b2 0 none).add 16) w37 fun x95 =>
    st ((Addr.mk b26 0 none).add 8) [(Value.int .i64 (max x90 x91))] w37 fun w38 =>
    (w38.cell? ((Addr.mk b2 0 none).add 16) = some (Value.int .i64 x95)) ∧
    (w38.cell? ((Addr.mk b1 0 none).add 16) = some (Value.int .i64 x94)) ∧
    (w38.cell? ((Addr.mk b2 0 none).add 9) = some (Value.int .i64 x93)) ∧
    (w38.cell? ((Addr.mk b1 0 none).add 9) = some (Value.int .i64 x92)) ∧
    st ((Addr.mk b26 0 none).add 9) [(Value.int .i64 (max x92 x93))] w38 fun w39 =>
    (w39.cell? ((Addr.mk b2 0 none).add 16) = some (Value.int .i64 x95)) ∧
    (w39.cell? ((Addr.mk b1 0 none).add 16) = some (Value.int .i64 x94)) ∧
    st ((Addr.mk b26 0 none).add 16) [(Value.int .i64 (max x94 x95))] w39 fun w40 =>
    J89 () w40
  )
  fun _l99 w41 =>
  jn (fun (J101 : Unit → World → Prop) => tk w41 fun w42 =>
    ld (Value.int .i64) ((Addr.mk b1 0 none).add 10) w42 fun x102 =>
    ld (Value.int .i64) ((Addr.mk b2 0 none).add 10) w42 fun x103 =>
    ld (Value.int .i64) ((Addr.mk b1 0 none).add 11) w42 fun x104 =>
    ld (Value.int .i64) ((Addr.mk b2 0 none).add 11) w42 fun x105 =>
    st ((Addr.mk b26 0 none).add 10) [(Value.int .i64 (max x102 x103))] w42 fun w43 =>
    (w43.cell? ((Addr.mk b2 0 none).add 11) = some (Value.int .i64 x105)) ∧
    (w43.cell? ((Addr.mk b1 0 none).add 11) = some (Value.int .i64 x104)) ∧
    st ((Addr.mk b26 0 none).add 11) [(Value.int .i64 (max x104 x105))] w43 fun w44 =>
    J101 () w44
  )
  fun _l108 w45 =>
  L23 (Addr.mk b1 0 none) w45 fun x109 x110 x111 x112 x113 x114 x115 x116 x117 x118 x119 x120 x121 x122 x123 x124 x125 x126 x127 x128 x129 x130 =>
  L23 (Addr.mk b2 0 none) w45 fun x131 x132 x133 x134 x135 x136 x137 x138 x139 x140 x141 x142 x143 x144 x145 x146 x147 x148 x149 x150 x151 x152 =>
  callC Try.prog 34 #[(V23 x109 x110 x111 x112 x113 x114 x115 x116 x117 x118 x119 x120 x121 x122 x123 x124 x125 x126 x127 x128 x129 x130), (V23 x131 x132 x133 x134 x135 x136 x137 x138 x139 x140 x141 x142 x143 x144 x145 x146 x147 x148 x149 x150 x151 x152)] (fun (r : Int) => (Value.int .i64 r)) w45 fun r153 w46 =>
  st ((Addr.mk b26 0 none).add 2) [(Value.int .i64 r153)] w46 fun w47 =>
  ld Sl.v ((Addr.mk b1 0 none).add 12) w47 fun x155 =>
  callC Try.prog 35 #[(Sl.v x155)] (fun (r : Sl) => (Sl.v r)) w47 fun r156 w48 =>
  st ((Addr.mk b26 0 none).add 12) [(Sl.v r156)] w48 fun w49 =>
  ld Sl.v ((Addr.mk b2 0 none).add 12) w49 fun x158 =>
  lp (fun (next159 : Int → World → Prop) l159 w50 =>
    cnd (decide (l159 < (x158.len : Int)))
      (
      jn (fun (J161 : Unit → World → Prop) =>
        ix x158 l159 1 fun p163 =>
        ld Value.string p163 w50 fun x164 =>
        ld Sl.v ((Addr.mk b1 0 none).add 12) w50 fun x165 =>
        callC Try.prog 27 #[(Sl.v x165), (Value.string x164)] (fun (r : Bool) => (Value.bool r)) w50 fun r166 w52 =>
        cnd (!r166)
          (
          ld Sl.v ((Addr.mk b26 0 none).add 12) w52 fun x168 =>
          nw 9 #[(Value.string x164)] w52 fun b169 w53 =>
          rn Try.prog (Builtin.append_ #[22, 22] 22 #[Sl.v x168, Sl.v (⟨some ⟨b169, 0, none⟩, 1, 1⟩ : Sl)]) Sl.v w53 fun r170 w54 =>
          st ((Addr.mk b26 0 none).add 12) [(Sl.v r170)] w54 fun w55 =>
          J161 () w55
          )
          (
          J161 () w52
          )
      )
      fun _l162 w51 =>
      next159 (IntKind.i64.wrap (l159 + 1)) w51
      )
      (
      L23 (Addr.mk b26 0 none) w50 fun x172 x173 x174 x175 x176 x177 x178 x179 x180 x181 x182 x183 x184 x185 x186 x187 x188 x189 x190 x191 x192 x193 =>
      st (Addr.mk b3 0 none) (S23 x172 x173 x174 x175 x176 x177 x178 x179 x180 x181 x182 x183 x184 x185 x186 x187 x188 x189 x190 x191 x192 x193) w50 fun w56 =>
      L23 (Addr.mk b3 0 none) w56 fun x195 x196 x197 x198 x199 x200 x201 x202 x203 x204 x205 x206 x207 x208 x209 x210 x211 x212 x213 x214 x215 x216 =>
      K (x195, x196, x197, x198, x199, x200, x201, x202, x203, x204, x205, x206, x207, x208, x209, x210, x211, x212, x213, x214, x215, x216) w56
      )
  ) 0 w49
set_option maxRecDepth 100000 in
theorem D17 (p0_0 : ByteArray) (p0_1 : Int) (p0_2 : Int) (p0_3 : Int) (p0_4 : Bool) (p0_5 : Int) (p0_6 : Bool) (p0_7 : Bool) (p0_8 : Int) (p0_9 : Int) (p0_10 : Int) (p0_11 : Int) (p0_12 : Sl) (p0_13 : Int) (p0_14 : Int) (p0_15 : Int) (p0_16 : Int) (p0_17 : Bool) (p0_18 : Int) (p0_19 : Int) (p0_20 : Int) (p0_21 : Int) (p1_0 : ByteArray) (p1_1 : Int) (p1_2 : Int) (p1_3 : Int) (p1_4 : Bool) (p1_5 : Int) (p1_6 : Bool) (p1_7 : Bool) (p1_8 : Int) (p1_9 : Int) (p1_10 : Int) (p1_11 : Int) (p1_12 : Sl) (p1_13 : Int) (p1_14 : Int) (p1_15 : Int) (p1_16 : Int) (p1_17 : Bool) (p1_18 : Int) (p1_19 : Int) (p1_20 : Int) (p1_21 : Int) (w0 : World) (K : T23 → World → Prop) (h : F17 p0_0 p0_1 p0_2 p0_3 p0_4 p0_5 p0_6 p0_7 p0_8 p0_9 p0_10 p0_11 p0_12 p0_13 p0_14 p0_15 p0_16 p0_17 p0_18 p0_19 p0_20 p0_21 p1_0 p1_1 p1_2 p1_3 p1_4 p1_5 p1_6 p1_7 p1_8 p1_9 p1_10 p1_11 p1_12 p1_13 p1_14 p1_15 p1_16 p1_17 p1_18 p1_19 p1_20 p1_21 w0 K) : callC Try.prog 17 #[(V23 p0_0 p0_1 p0_2 p0_3 p0_4 p0_5 p0_6 p0_7 p0_8 p0_9 p0_10 p0_11 p0_12 p0_13 p0_14 p0_15 p0_16 p0_17 p0_18 p0_19 p0_20 p0_21), (V23 p1_0 p1_1 p1_2 p1_3 p1_4 p1_5 p1_6 p1_7 p1_8 p1_9 p1_10 p1_11 p1_12 p1_13 p1_14 p1_15 p1_16 p1_17 p1_18 p1_19 p1_20 p1_21)] E23 w0 K := by
  unfold F17 at h
  refine calls_of_wpC Try.func17 rfl 106 rfl (by simp) ?_
  intro ρ hρ
  have e0 : ρ 0 = (V23 p0_0 p0_1 p0_2 p0_3 p0_4 p0_5 p0_6 p0_7 p0_8 p0_9 p0_10 p0_11 p0_12 p0_13 p0_14 p0_15 p0_16 p0_17 p0_18 p0_19 p0_20 p0_21) := hρ 0
  have e1 : ρ 1 = (V23 p1_0 p1_1 p1_2 p1_3 p1_4 p1_5 p1_6 p1_7 p1_8 p1_9 p1_10 p1_11 p1_12 p1_13 p1_14 p1_15 p1_16 p1_17 p1_18 p1_19 p1_20 p1_21) := hρ 1
  clear hρ
  refine wpC_seq ?_
  refine wpC_region ?_
  obtain ⟨b1, hb1⟩ : ∃ u, u = w0.heap.size := ⟨_, rfl⟩
  obtain ⟨w1, hw1⟩ : ∃ u, u = w0.alloc (.cells (A23 p0_0 p0_1 p0_2 p0_3 p0_4 p0_5 p0_6 p0_7 p0_8 p0_9 p0_10 p0_11 p0_12 p0_13 p0_14 p0_15 p0_16 p0_17 p0_18 p0_19 p0_20 p0_21) 24) := ⟨_, rfl⟩
  replace h := h b1 w1 hb1 hw1
  refine wpR_val (v := (Value.pointer (some (Addr.mk b1 0 none)))) (w' := w1) rfl rfl rfl ((x_box (v := (V23 p0_0 p0_1 p0_2 p0_3 p0_4 p0_5 p0_6 p0_7 p0_8 p0_9 p0_10 p0_11 p0_12 p0_13 p0_14 p0_15 p0_16 p0_17 p0_18 p0_19 p0_20 p0_21)) rfl e0).trans (by rw [hb1, hw1]; rfl)) ?_
  obtain ⟨b2, hb2⟩ : ∃ u, u = w1.heap.size := ⟨_, rfl⟩
  obtain ⟨w2, hw2⟩ : ∃ u, u = w1.alloc (.cells (A23 p1_0 p1_1 p1_2 p1_3 p1_4 p1_5 p1_6 p1_7 p1_8 p1_9 p1_10 p1_11 p1_12 p1_13 p1_14 p1_15 p1_16 p1_17 p1_18 p1_19 p1_20 p1_21) 24) := ⟨_, rfl⟩
  replace h := h b2 w2 hb2 hw2
  refine wpR_val (v := (Value.pointer (some (Addr.mk b2 0 none)))) (w' := w2) rfl rfl rfl ((x_box (v := (V23 p1_0 p1_1 p1_2 p1_3 p1_4 p1_5 p1_6 p1_7 p1_8 p1_9 p1_10 p1_11 p1_12 p1_13 p1_14 p1_15 p1_16 p1_17 p1_18 p1_19 p1_20 p1_21)) rfl e1).trans (by rw [hb2, hw2]; rfl)) ?_
  obtain ⟨b3, hb3⟩ : ∃ u, u = w2.heap.size := ⟨_, rfl⟩
  obtain ⟨w3, hw3⟩ : ∃ u, u = w2.alloc (.cells (A23 (ByteArray.mk #[]) 0 0 0 false 0 false false 0 0 0 0 Sl.nil 0 0 0 0 false 0 0 0 0) 24) := ⟨_, rfl⟩
  replace h := h b3 w3 hb3 hw3
  refine wpR_val (v := (Value.pointer (some (Addr.mk b3 0 none)))) (w' := w3) rfl rfl rfl ((x_alloc rfl ZV_24).trans (by rw [hb3, hw3]; rfl)) ?_
  refine wpR_nil ?_
  refine wpC_seq ?_
  refine wpC_cut (fun ρ => ρ 2 = (Value.pointer (some (Addr.mk b1 0 none))) ∧ ρ 3 = (Value.pointer (some (Addr.mk b2 0 none))) ∧ ρ 4 = (Value.pointer (some (Addr.mk b3 0 none))) ∧ True) ⟨rfl, rfl, rfl, trivial⟩ ?_
  rintro ρ ⟨e2, e3, e4, -⟩
  refine wpC_region ?_
  obtain ⟨x4, q4, x5, q5, x6, q6, x7, q7, x8, q8, x9, q9, x10, q10, x11, q11, x12, q12, x13, q13, x14, q14, x15, q15, x16, q16, x17, q17, x18, q18, x19, q19, x20, q20, x21, q21, x22, q22, x23, q23, x24, q24, x25, q25, h⟩ := h
  refine wpR_val (v := (V23 x4 x5 x6 x7 x8 x9 x10 x11 x12 x13 x14 x15 x16 x17 x18 x19 x20 x21 x22 x23 x24 x25)) (w' := w3) rfl rfl rfl (x_loadN (S23 x4 x5 x6 x7 x8 x9 x10 x11 x12 x13 x14 x15 x16 x17 x18 x19 x20 x21 x22 x23 x24 x25) rfl e2 SH_24 (K23 ⟨q4, q5, q6, q7, q8, q9, q10, q11, q12, q13, q14, q15, q16, q17, q18, q19, q20, q21, q22, q23, q24, q25⟩)) ?_
  obtain ⟨b26, hb26⟩ : ∃ u, u = w3.heap.size := ⟨_, rfl⟩
  obtain ⟨w4, hw26⟩ : ∃ u, u = w3.alloc (.cells (A23 (ByteArray.mk #[]) 0 0 0 false 0 false false 0 0 0 0 Sl.nil 0 0 0 0 false 0 0 0 0) 24) := ⟨_, rfl⟩
  replace h := h b26 w4 hb26 hw26
  refine wpR_val (v := (Value.pointer (some (Addr.mk b26 0 none)))) (w' := w4) rfl rfl rfl ((x_alloc rfl ZV_24).trans (by rw [hb26, hw26]; rfl)) ?_
  obtain ⟨q27, h⟩ := h
  obtain ⟨w5, hw27⟩ : ∃ u, u = setAll w4 (Addr.mk b26 0 none) (S23 x4 x5 x6 x7 x8 x9 x10 x11 x12 x13 x14 x15 x16 x17 x18 x19 x20 x21 x22 x23 x24 x25) 0 := ⟨_, rfl⟩
  replace h := h w5 hw27
  refine wpR_skp (w' := w5) rfl rfl ((x_store (v := (V23 x4 x5 x6 x7 x8 x9 x10 x11 x12 x13 x14 x15 x16 x17 x18 x19 x20 x21 x22 x23 x24 x25)) rfl rfl rfl SZ_24 (ones (by rfl)) q27).trans (by rw [hw27]; rfl)) ?_
  refine wpR_nil ?_
  refine wpC_seq ?_
  refine wpC_cut (fun ρ => ρ 2 = (Value.pointer (some (Addr.mk b1 0 none))) ∧ ρ 3 = (Value.pointer (some (Addr.mk b2 0 none))) ∧ ρ 4 = (Value.pointer (some (Addr.mk b3 0 none))) ∧ ρ 5 = (Value.pointer (some (Addr.mk b26 0 none))) ∧ True) ⟨e2, e3, e4, rfl, trivial⟩ ?_
  rintro ρ ⟨e2, e3, e4, e5, -⟩
  obtain ⟨J29, h, hk⟩ := h
  refine wpC_drawJ (by kernel_rfl) (fun (x : Unit) ρ => ρ 2 = (Value.pointer (some (Addr.mk b1 0 none))) ∧ ρ 3 = (Value.pointer (some (Addr.mk b2 0 none))) ∧ ρ 4 = (Value.pointer (some (Addr.mk b3 0 none))) ∧ ρ 5 = (Value.pointer (some (Addr.mk b26 0 none))) ∧ True) J29 ?_ ?_
  · clear hk
    unfold tk at h
    generalize w5.drew = w6 at h ⊢
    refine wpD_take (v := (Value.pointer (some ((Addr.mk b1 0 none).add 1)))) 0 (fun _ => True) rfl (by kernel_rfl) (by kernel_rfl) (by kernel_rfl) rfl rfl rfl trivial (fun w _ => (x_fieldAddr rfl e2 FA_24_1)) ?_
    obtain ⟨x30, q30, h⟩ := h
    refine wpD_take (v := (Value.int .i64 x30)) 1 (fun w => w.cell? ((Addr.mk b1 0 none).add 1) = some (Value.int .i64 x30)) rfl (by kernel_rfl) (by kernel_rfl) (by kernel_rfl) rfl rfl rfl q30 (fun w q30 => (x_load1 rfl rfl SH_3 q30)) ?_
    refine wpD_take (v := (Value.pointer (some ((Addr.mk b2 0 none).add 1)))) 2 (fun _ => True) rfl (by kernel_rfl) (by kernel_rfl) (by kernel_rfl) rfl rfl rfl trivial (fun w _ => (x_fieldAddr rfl e3 FA_24_1)) ?_
    obtain ⟨x31, q31, h⟩ := h
    refine wpD_take (v := (Value.int .i64 x31)) 3 (fun w => w.cell? ((Addr.mk b2 0 none).add 1) = some (Value.int .i64 x31)) rfl (by kernel_rfl) (by kernel_rfl) (by kernel_rfl) rfl rfl rfl q31 (fun w q31 => (x_load1 rfl rfl SH_3 q31)) ?_
    refine wpD_take (v := (Value.int .i64 (max x30 x31))) 4 (fun _ => True) rfl (by kernel_rfl) (by kernel_rfl) (by kernel_rfl) rfl rfl rfl trivial (fun w _ => (x_max rfl rfl rfl)) ?_
    refine wpD_take (v := (Value.pointer (some ((Addr.mk b1 0 none).add 3)))) 5 (fun _ => True) rfl (by kernel_rfl) (by kernel_rfl) (by kernel_rfl) rfl rfl rfl trivial (fun w _ => (x_fieldAddr rfl e2 FA_24_3)) ?_
    obtain ⟨x32, q32, h⟩ := h
    refine wpD_take (v := (Value.int .i64 x32)) 6 (fun w => w.cell? ((Addr.mk b1 0 none).add 3) = some (Value.int .i64 x32)) rfl (by kernel_rfl) (by kernel_rfl) (by kernel_rfl) rfl rfl rfl q32 (fun w q32 => (x_load1 rfl rfl SH_3 q32)) ?_
    refine wpD_take (v := (Value.pointer (some ((Addr.mk b2 0 none).add 3)))) 7 (fun _ => True) rfl (by kernel_rfl) (by kernel_rfl) (by kernel_rfl) rfl rfl rfl trivial (fun w _ => (x_fieldAddr rfl e3 FA_24_3)) ?_
    obtain ⟨x33, q33, h⟩ := h
    refine wpD_take (v := (Value.int .i64 x33)) 8 (fun w => w.cell? ((Addr.mk b2 0 none).add 3) = some (Value.int .i64 x33)) rfl (by kernel_rfl) (by kernel_rfl) (by kernel_rfl) rfl rfl rfl q33 (fun w q33 => (x_load1 rfl rfl SH_3 q33)) ?_
    refine wpD_take (v := (Value.int .i64 (max x32 x33))) 9 (fun _ => True) rfl (by kernel_rfl) (by kernel_rfl) (by kernel_rfl) rfl rfl rfl trivial (fun w _ => (x_max rfl rfl rfl)) ?_
    refine wpD_take (v := (Value.pointer (some ((Addr.mk b1 0 none).add 5)))) 10 (fun _ => True) rfl (by kernel_rfl) (by kernel_rfl) (by kernel_rfl) rfl rfl rfl trivial (fun w _ => (x_fieldAddr rfl e2 FA_24_5)) ?_
    obtain ⟨x34, q34, h⟩ := h
    refine wpD_take (v := (Value.int .i64 x34)) 11 (fun w => w.cell? ((Addr.mk b1 0 none).add 5) = some (Value.int .i64 x34)) rfl (by kernel_rfl) (by kernel_rfl) (by kernel_rfl) rfl rfl rfl q34 (fun w q34 => (x_load1 rfl rfl SH_3 q34)) ?_
    refine wpD_take (v := (Value.pointer (some ((Addr.mk b2 0 none).add 5)))) 12 (fun _ => True) rfl (by kernel_rfl) (by kernel_rfl) (by kernel_rfl) rfl rfl rfl trivial (fun w _ => (x_fieldAddr rfl e3 FA_24_5)) ?_
    obtain ⟨x35, q35, h⟩ := h
    refine wpD_take (v := (Value.int .i64 x35)) 13 (fun w => w.cell? ((Addr.mk b2 0 none).add 5) = some (Value.int .i64 x35)) rfl (by kernel_rfl) (by kernel_rfl) (by kernel_rfl) rfl rfl rfl q35 (fun w q35 => (x_load1 rfl rfl SH_3 q35)) ?_
    refine wpD_take (v := (Value.int .i64 (max x34 x35))) 14 (fun _ => True) rfl (by kernel_rfl) (by kernel_rfl) (by kernel_rfl) rfl rfl rfl trivial (fun w _ => (x_max rfl rfl rfl)) ?_
    refine wpD_take (v := (Value.pointer (some ((Addr.mk b26 0 none).add 1)))) 15 (fun _ => True) rfl (by kernel_rfl) (by kernel_rfl) (by kernel_rfl) rfl rfl rfl trivial (fun w _ => (x_fieldAddr rfl e5 FA_24_1)) ?_
    refine wpD_all (rs := [16]) (by kernel_rfl) (by simp) (allD_cons ?_ allD_nil)
    obtain ⟨q36, h⟩ := h
    obtain ⟨w7, hw36⟩ : ∃ u, u = setAll w6 ((Addr.mk b26 0 none).add 1) [(Value.int .i64 (max x30 x31))] 0 := ⟨_, rfl⟩
    replace h := h w7 hw36
    obtain ⟨o13, h⟩ := h
    obtain ⟨o11, h⟩ := h
    obtain ⟨o8, h⟩ := h
    obtain ⟨o6, h⟩ := h
    refine stepD_skpL (L' := [(14, fun _ => True), (13, fun w => w.cell? ((Addr.mk b2 0 none).add 5) = some (Value.int .i64 x35)), (12, fun _ => True), (11, fun w => w.cell? ((Addr.mk b1 0 none).add 5) = some (Value.int .i64 x34)), (10, fun _ => True), (9, fun _ => True), (8, fun w => w.cell? ((Addr.mk b2 0 none).add 3) = some (Value.int .i64 x33)), (7, fun _ => True), (6, fun w => w.cell? ((Addr.mk b1 0 none).add 3) = some (Value.int .i64 x32)), (5, fun _ => True)]) (w' := w7) rfl rfl rfl ((x_store (v := (Value.int .i64 (max x30 x31))) rfl rfl rfl SZ_3 (ones (by rfl)) q36).trans (by rw [hw36]; rfl)) (by kernel_rfl) (held_cons trivial (held_cons o13 (held_cons trivial (held_cons o11 (held_cons trivial (held_cons trivial (held_cons o8 (held_cons trivial (held_cons o6 (held_cons trivial held_nil)))))))))) ?_
    refine wpD_take (v := (Value.pointer (some ((Addr.mk b26 0 none).add 3)))) 17 (fun _ => True) rfl (by kernel_rfl) (by kernel_rfl) (by kernel_rfl) rfl rfl rfl trivial (fun w _ => (x_fieldAddr rfl e5 FA_24_3)) ?_
    refine wpD_all (rs := [18]) (by kernel_rfl) (by simp) (allD_cons ?_ allD_nil)
    obtain ⟨q37, h⟩ := h
    obtain ⟨w8, hw37⟩ : ∃ u, u = setAll w7 ((Addr.mk b26 0 none).add 3) [(Value.int .i64 (max x32 x33))] 0 := ⟨_, rfl⟩
    replace h := h w8 hw37
    obtain ⟨o13, h⟩ := h
    obtain ⟨o11, h⟩ := h
    refine stepD_skpL (L' := [(14, fun _ => True), (13, fun w => w.cell? ((Addr.mk b2 0 none).add 5) = some (Value.int .i64 x35)), (12, fun _ => True), (11, fun w => w.cell? ((Addr.mk b1 0 none).add 5) = some (Value.int .i64 x34)), (10, fun _ => True)]) (w' := w8) rfl rfl rfl ((x_store (v := (Value.int .i64 (max x32 x33))) rfl rfl rfl SZ_3 (ones (by rfl)) q37).trans (by rw [hw37]; rfl)) (by kernel_rfl) (held_cons trivial (held_cons o13 (held_cons trivial (held_cons o11 (held_cons trivial held_nil))))) ?_
    refine wpD_take (v := (Value.pointer (some ((Addr.mk b26 0 none).add 5)))) 19 (fun _ => True) rfl (by kernel_rfl) (by kernel_rfl) (by kernel_rfl) rfl rfl rfl trivial (fun w _ => (x_fieldAddr rfl e5 FA_24_5)) ?_
    refine wpD_all (rs := [20]) (by kernel_rfl) (by simp) (allD_cons ?_ allD_nil)
    obtain ⟨q38, h⟩ := h
    obtain ⟨w9, hw38⟩ : ∃ u, u = setAll w8 ((Addr.mk b26 0 none).add 5) [(Value.int .i64 (max x34 x35))] 0 := ⟨_, rfl⟩
    replace h := h w9 hw38
    refine stepD_skpL (L' := []) (w' := w9) rfl rfl rfl ((x_store (v := (Value.int .i64 (max x34 x35))) rfl rfl rfl SZ_3 (ones (by rfl)) q38).trans (by rw [hw38]; rfl)) (by kernel_rfl) held_nil ?_
    exact wpD_done (by kernel_rfl) ⟨(), ⟨e2, e3, e4, e5, trivial⟩, h⟩
  clear h
  rintro l39 ρ w10 ⟨e2, e3, e4, e5, -⟩ h
  replace h := hk l39 w10 h
  clear hk
  refine wpC_seq ?_
  obtain ⟨J41, h, hk⟩ := h
  refine wpC_drawJ (by kernel_rfl) (fun (x : Unit) ρ => ρ 2 = (Value.pointer (some (Addr.mk b1 0 none))) ∧ ρ 3 = (Value.pointer (some (Addr.mk b2 0 none))) ∧ ρ 4 = (Value.pointer (some (Addr.mk b3 0 none))) ∧ ρ 5 = (Value.pointer (some (Addr.mk b26 0 none))) ∧ True) J41 ?_ ?_
  · clear hk
    unfold tk at h
    generalize w10.drew = w11 at h ⊢
    refine wpD_take (v := (Value.pointer (some ((Addr.mk b1 0 none).add 4)))) 0 (fun _ => True) rfl (by kernel_rfl) (by kernel_rfl) (by kernel_rfl) rfl rfl rfl trivial (fun w _ => (x_fieldAddr rfl e2 FA_24_4)) ?_
    obtain ⟨x42, q42, h⟩ := h
    refine wpD_take (v := (Value.bool x42)) 1 (fun w => w.cell? ((Addr.mk b1 0 none).add 4) = some (Value.bool x42)) rfl (by kernel_rfl) (by kernel_rfl) (by kernel_rfl) rfl rfl rfl q42 (fun w q42 => (x_load1 rfl rfl SH_4 q42)) ?_
    refine wpD_take (v := (Value.bool x42)) 2 (fun _ => True) rfl (by kernel_rfl) (by kernel_rfl) (by kernel_rfl) rfl rfl rfl trivial (fun w _ => (x_move (v := (Value.bool x42)) rfl rfl)) ?_
    rcases Bool.eq_false_or_eq_true (x42) with hc43 | hc43
    · replace h := h.1 hc43
      refine wpD_pass 3 rfl (by kernel_rfl) (by kernel_rfl) (by kernel_rfl) (wantN rfl rfl rfl hc43) rfl rfl ?_
      refine wpD_pass 4 rfl (by kernel_rfl) (by kernel_rfl) (by kernel_rfl) (wantN rfl rfl rfl hc43) rfl rfl ?_
      refine wpD_take (v := (Value.bool true)) 5 (fun _ => True) rfl (by kernel_rfl) (by kernel_rfl) (by kernel_rfl) rfl rfl rfl trivial (fun w _ => (x_pickT (v := (Value.bool true)) rfl rfl hc43 rfl)) ?_
      refine wpD_take (v := (Value.pointer (some ((Addr.mk b1 0 none).add 6)))) 6 (fun _ => True) rfl (by kernel_rfl) (by kernel_rfl) (by kernel_rfl) rfl rfl rfl trivial (fun w _ => (x_fieldAddr rfl e2 FA_24_6)) ?_
      obtain ⟨x44, q44, h⟩ := h
      refine wpD_take (v := (Value.bool x44)) 7 (fun w => w.cell? ((Addr.mk b1 0 none).add 6) = some (Value.bool x44)) rfl (by kernel_rfl) (by kernel_rfl) (by kernel_rfl) rfl rfl rfl q44 (fun w q44 => (x_load1 rfl rfl SH_4 q44)) ?_
      refine wpD_take (v := (Value.bool x44)) 8 (fun _ => True) rfl (by kernel_rfl) (by kernel_rfl) (by kernel_rfl) rfl rfl rfl trivial (fun w _ => (x_move (v := (Value.bool x44)) rfl rfl)) ?_
      rcases Bool.eq_false_or_eq_true (x44) with hc45 | hc45
      · replace h := h.1 hc45
        refine wpD_pass 9 rfl (by kernel_rfl) (by kernel_rfl) (by kernel_rfl) (wantN rfl rfl rfl hc45) rfl rfl ?_
        refine wpD_pass 10 rfl (by kernel_rfl) (by kernel_rfl) (by kernel_rfl) (wantN rfl rfl rfl hc45) rfl rfl ?_
        refine wpD_take (v := (Value.bool true)) 11 (fun _ => True) rfl (by kernel_rfl) (by kernel_rfl) (by kernel_rfl) rfl rfl rfl trivial (fun w _ => (x_pickT (v := (Value.bool true)) rfl rfl hc45 rfl)) ?_
        refine wpD_take (v := (Value.pointer (some ((Addr.mk b1 0 none).add 7)))) 12 (fun _ => True) rfl (by kernel_rfl) (by kernel_rfl) (by kernel_rfl) rfl rfl rfl trivial (fun w _ => (x_fieldAddr rfl e2 FA_24_7)) ?_
        obtain ⟨x46, q46, h⟩ := h
        refine wpD_take (v := (Value.bool x46)) 13 (fun w => w.cell? ((Addr.mk b1 0 none).add 7) = some (Value.bool x46)) rfl (by kernel_rfl) (by kernel_rfl) (by kernel_rfl) rfl rfl rfl q46 (fun w q46 => (x_load1 rfl rfl SH_4 q46)) ?_
        refine wpD_take (v := (Value.bool x46)) 14 (fun _ => True) rfl (by kernel_rfl) (by kernel_rfl) (by kernel_rfl) rfl rfl rfl trivial (fun w _ => (x_move (v := (Value.bool x46)) rfl rfl)) ?_
        rcases Bool.eq_false_or_eq_true (x46) with hc47 | hc47
        · replace h := h.1 hc47
          refine wpD_pass 15 rfl (by kernel_rfl) (by kernel_rfl) (by kernel_rfl) (wantN rfl rfl rfl hc47) rfl rfl ?_
          refine wpD_pass 16 rfl (by kernel_rfl) (by kernel_rfl) (by kernel_rfl) (wantN rfl rfl rfl hc47) rfl rfl ?_
          refine wpD_take (v := (Value.bool true)) 17 (fun _ => True) rfl (by kernel_rfl) (by kernel_rfl) (by kernel_rfl) rfl rfl rfl trivial (fun w _ => (x_pickT (v := (Value.bool true)) rfl rfl hc47 rfl)) ?_
          refine wpD_take (v := (Value.pointer (some ((Addr.mk b26 0 none).add 4)))) 18 (fun _ => True) rfl (by kernel_rfl) (by kernel_rfl) (by kernel_rfl) rfl rfl rfl trivial (fun w _ => (x_fieldAddr rfl e5 FA_24_4)) ?_
          refine wpD_all (rs := [19]) (by kernel_rfl) (by simp) (allD_cons ?_ allD_nil)
          obtain ⟨q48, h⟩ := h
          obtain ⟨w12, hw48⟩ : ∃ u, u = setAll w11 ((Addr.mk b26 0 none).add 4) [(Value.bool true)] 0 := ⟨_, rfl⟩
          replace h := h w12 hw48
          obtain ⟨o13, h⟩ := h
          obtain ⟨o7, h⟩ := h
          refine stepD_skpL (L' := [(17, fun _ => True), (16, fun _ => True), (15, fun _ => True), (13, fun w => w.cell? ((Addr.mk b1 0 none).add 7) = some (Value.bool x46)), (12, fun _ => True), (11, fun _ => True), (10, fun _ => True), (9, fun _ => True), (8, fun _ => True), (7, fun w => w.cell? ((Addr.mk b1 0 none).add 6) = some (Value.bool x44)), (6, fun _ => True)]) (w' := w12) rfl rfl rfl ((x_store (v := (Value.bool true)) rfl rfl rfl SZ_4 (ones (by rfl)) q48).trans (by rw [hw48]; rfl)) (by kernel_rfl) (held_cons trivial (held_cons trivial (held_cons trivial (held_cons o13 (held_cons trivial (held_cons trivial (held_cons trivial (held_cons trivial (held_cons trivial (held_cons o7 (held_cons trivial held_nil))))))))))) ?_
          refine wpD_take (v := (Value.pointer (some ((Addr.mk b26 0 none).add 6)))) 20 (fun _ => True) rfl (by kernel_rfl) (by kernel_rfl) (by kernel_rfl) rfl rfl rfl trivial (fun w _ => (x_fieldAddr rfl e5 FA_24_6)) ?_
          refine wpD_all (rs := [21]) (by kernel_rfl) (by simp) (allD_cons ?_ allD_nil)
          obtain ⟨q49, h⟩ := h
          obtain ⟨w13, hw49⟩ : ∃ u, u = setAll w12 ((Addr.mk b26 0 none).add 6) [(Value.bool true)] 0 := ⟨_, rfl⟩
          replace h := h w13 hw49
          obtain ⟨o13, h⟩ := h
          refine stepD_skpL (L' := [(17, fun _ => True), (16, fun _ => True), (15, fun _ => True), (13, fun w => w.cell? ((Addr.mk b1 0 none).add 7) = some (Value.bool x46)), (12, fun _ => True)]) (w' := w13) rfl rfl rfl ((x_store (v := (Value.bool true)) rfl rfl rfl SZ_4 (ones (by rfl)) q49).trans (by rw [hw49]; rfl)) (by kernel_rfl) (held_cons trivial (held_cons trivial (held_cons trivial (held_cons o13 (held_cons trivial held_nil))))) ?_
          refine wpD_take (v := (Value.pointer (some ((Addr.mk b26 0 none).add 7)))) 22 (fun _ => True) rfl (by kernel_rfl) (by kernel_rfl) (by kernel_rfl) rfl rfl rfl trivial (fun w _ => (x_fieldAddr rfl e5 FA_24_7)) ?_
          refine wpD_all (rs := [23]) (by kernel_rfl) (by simp) (allD_cons ?_ allD_nil)
          obtain ⟨q50, h⟩ := h
          obtain ⟨w14, hw50⟩ : ∃ u, u = setAll w13 ((Addr.mk b26 0 none).add 7) [(Value.bool true)] 0 := ⟨_, rfl⟩
          replace h := h w14 hw50
          refine stepD_skpL (L' := []) (w' := w14) rfl rfl rfl ((x_store (v := (Value.bool true)) rfl rfl rfl SZ_4 (ones (by rfl)) q50).trans (by rw [hw50]; rfl)) (by kernel_rfl) held_nil ?_
          exact wpD_done (by kernel_rfl) ⟨(), ⟨e2, e3, e4, e5, trivial⟩, h⟩
        · replace h := h.2 hc47
          refine wpD_take (v := (Value.pointer (some ((Addr.mk b2 0 none).add 7)))) 15 (fun _ => True) rfl (by kernel_rfl) (by kernel_rfl) (by kernel_rfl) (wantG rfl rfl rfl hc47) rfl rfl trivial (fun w _ => (x_fieldAddr rfl e3 FA_24_7)) ?_
          obtain ⟨x51, q51, h⟩ := h
          refine wpD_take (v := (Value.bool x51)) 16 (fun w => w.cell? ((Addr.mk b2 0 none).add 7) = some (Value.bool x51)) rfl (by kernel_rfl) (by kernel_rfl) (by kernel_rfl) (wantG rfl rfl rfl hc47) rfl rfl q51 (fun w q51 => (x_load1 rfl rfl SH_4 q51)) ?_
          refine wpD_take (v := (Value.bool x51)) 17 (fun _ => True) rfl (by kernel_rfl) (by kernel_rfl) (by kernel_rfl) rfl rfl rfl trivial (fun w _ => (x_pickF (v := (Value.bool x51)) rfl rfl hc47 rfl)) ?_
          refine wpD_take (v := (Value.pointer (some ((Addr.mk b26 0 none).add 4)))) 18 (fun _ => True) rfl (by kernel_rfl) (by kernel_rfl) (by kernel_rfl) rfl rfl rfl trivial (fun w _ => (x_fieldAddr rfl e5 FA_24_4)) ?_
          refine wpD_all (rs := [19]) (by kernel_rfl) (by simp) (allD_cons ?_ allD_nil)
          obtain ⟨q52, h⟩ := h
          obtain ⟨w15, hw52⟩ : ∃ u, u = setAll w11 ((Addr.mk b26 0 none).add 4) [(Value.bool true)] 0 := ⟨_, rfl⟩
          replace h := h w15 hw52
          obtain ⟨o16, h⟩ := h
          obtain ⟨o13, h⟩ := h
          obtain ⟨o7, h⟩ := h
          refine stepD_skpL (L' := [(17, fun _ => True), (16, fun w => w.cell? ((Addr.mk b2 0 none).add 7) = some (Value.bool x51)), (15, fun _ => True), (13, fun w => w.cell? ((Addr.mk b1 0 none).add 7) = some (Value.bool x46)), (12, fun _ => True), (11, fun _ => True), (10, fun _ => True), (9, fun _ => True), (8, fun _ => True), (7, fun w => w.cell? ((Addr.mk b1 0 none).add 6) = some (Value.bool x44)), (6, fun _ => True)]) (w' := w15) rfl rfl rfl ((x_store (v := (Value.bool true)) rfl rfl rfl SZ_4 (ones (by rfl)) q52).trans (by rw [hw52]; rfl)) (by kernel_rfl) (held_cons trivial (held_cons o16 (held_cons trivial (held_cons o13 (held_cons trivial (held_cons trivial (held_cons trivial (held_cons trivial (held_cons trivial (held_cons o7 (held_cons trivial held_nil))))))))))) ?_
          refine wpD_take (v := (Value.pointer (some ((Addr.mk b26 0 none).add 6)))) 20 (fun _ => True) rfl (by kernel_rfl) (by kernel_rfl) (by kernel_rfl) rfl rfl rfl trivial (fun w _ => (x_fieldAddr rfl e5 FA_24_6)) ?_
          refine wpD_all (rs := [21]) (by kernel_rfl) (by simp) (allD_cons ?_ allD_nil)
          obtain ⟨q53, h⟩ := h
          obtain ⟨w16, hw53⟩ : ∃ u, u = setAll w15 ((Addr.mk b26 0 none).add 6) [(Value.bool true)] 0 := ⟨_, rfl⟩
          replace h := h w16 hw53
          obtain ⟨o16, h⟩ := h
          obtain ⟨o13, h⟩ := h
          refine stepD_skpL (L' := [(17, fun _ => True), (16, fun w => w.cell? ((Addr.mk b2 0 none).add 7) = some (Value.bool x51)), (15, fun _ => True), (13, fun w => w.cell? ((Addr.mk b1 0 none).add 7) = some (Value.bool x46)), (12, fun _ => True)]) (w' := w16) rfl rfl rfl ((x_store (v := (Value.bool true)) rfl rfl rfl SZ_4 (ones (by rfl)) q53).trans (by rw [hw53]; rfl)) (by kernel_rfl) (held_cons trivial (held_cons o16 (held_cons trivial (held_cons o13 (held_cons trivial held_nil))))) ?_
          refine wpD_take (v := (Value.pointer (some ((Addr.mk b26 0 none).add 7)))) 22 (fun _ => True) rfl (by kernel_rfl) (by kernel_rfl) (by kernel_rfl) rfl rfl rfl trivial (fun w _ => (x_fieldAddr rfl e5 FA_24_7)) ?_
          refine wpD_all (rs := [23]) (by kernel_rfl) (by simp) (allD_cons ?_ allD_nil)
          obtain ⟨q54, h⟩ := h
          obtain ⟨w17, hw54⟩ : ∃ u, u = setAll w16 ((Addr.mk b26 0 none).add 7) [(Value.bool x51)] 0 := ⟨_, rfl⟩
          replace h := h w17 hw54
          refine stepD_skpL (L' := []) (w' := w17) rfl rfl rfl ((x_store (v := (Value.bool x51)) rfl rfl rfl SZ_4 (ones (by rfl)) q54).trans (by rw [hw54]; rfl)) (by kernel_rfl) held_nil ?_
          exact wpD_done (by kernel_rfl) ⟨(), ⟨e2, e3, e4, e5, trivial⟩, h⟩
      · replace h := h.2 hc45
        refine wpD_take (v := (Value.pointer (some ((Addr.mk b2 0 none).add 6)))) 9 (fun _ => True) rfl (by kernel_rfl) (by kernel_rfl) (by kernel_rfl) (wantG rfl rfl rfl hc45) rfl rfl trivial (fun w _ => (x_fieldAddr rfl e3 FA_24_6)) ?_
        obtain ⟨x55, q55, h⟩ := h
        refine wpD_take (v := (Value.bool x55)) 10 (fun w => w.cell? ((Addr.mk b2 0 none).add 6) = some (Value.bool x55)) rfl (by kernel_rfl) (by kernel_rfl) (by kernel_rfl) (wantG rfl rfl rfl hc45) rfl rfl q55 (fun w q55 => (x_load1 rfl rfl SH_4 q55)) ?_
        refine wpD_take (v := (Value.bool x55)) 11 (fun _ => True) rfl (by kernel_rfl) (by kernel_rfl) (by kernel_rfl) rfl rfl rfl trivial (fun w _ => (x_pickF (v := (Value.bool x55)) rfl rfl hc45 rfl)) ?_
        refine wpD_take (v := (Value.pointer (some ((Addr.mk b1 0 none).add 7)))) 12 (fun _ => True) rfl (by kernel_rfl) (by kernel_rfl) (by kernel_rfl) rfl rfl rfl trivial (fun w _ => (x_fieldAddr rfl e2 FA_24_7)) ?_
        obtain ⟨x56, q56, h⟩ := h
        refine wpD_take (v := (Value.bool x56)) 13 (fun w => w.cell? ((Addr.mk b1 0 none).add 7) = some (Value.bool x56)) rfl (by kernel_rfl) (by kernel_rfl) (by kernel_rfl) rfl rfl rfl q56 (fun w q56 => (x_load1 rfl rfl SH_4 q56)) ?_
        refine wpD_take (v := (Value.bool x56)) 14 (fun _ => True) rfl (by kernel_rfl) (by kernel_rfl) (by kernel_rfl) rfl rfl rfl trivial (fun w _ => (x_move (v := (Value.bool x56)) rfl rfl)) ?_
        rcases Bool.eq_false_or_eq_true (x56) with hc57 | hc57
        · replace h := h.1 hc57
          refine wpD_pass 15 rfl (by kernel_rfl) (by kernel_rfl) (by kernel_rfl) (wantN rfl rfl rfl hc57) rfl rfl ?_
          refine wpD_pass 16 rfl (by kernel_rfl) (by kernel_rfl) (by kernel_rfl) (wantN rfl rfl rfl hc57) rfl rfl ?_
          refine wpD_take (v := (Value.bool true)) 17 (fun _ => True) rfl (by kernel_rfl) (by kernel_rfl) (by kernel_rfl) rfl rfl rfl trivial (fun w _ => (x_pickT (v := (Value.bool true)) rfl rfl hc57 rfl)) ?_
          refine wpD_take (v := (Value.pointer (some ((Addr.mk b26 0 none).add 4)))) 18 (fun _ => True) rfl (by kernel_rfl) (by kernel_rfl) (by kernel_rfl) rfl rfl rfl trivial (fun w _ => (x_fieldAddr rfl e5 FA_24_4)) ?_
          refine wpD_all (rs := [19]) (by kernel_rfl) (by simp) (allD_cons ?_ allD_nil)
          obtain ⟨q58, h⟩ := h
          obtain ⟨w18, hw58⟩ : ∃ u, u = setAll w11 ((Addr.mk b26 0 none).add 4) [(Value.bool true)] 0 := ⟨_, rfl⟩
          replace h := h w18 hw58
          obtain ⟨o13, h⟩ := h
          obtain ⟨o10, h⟩ := h
          obtain ⟨o7, h⟩ := h
          refine stepD_skpL (L' := [(17, fun _ => True), (16, fun _ => True), (15, fun _ => True), (13, fun w => w.cell? ((Addr.mk b1 0 none).add 7) = some (Value.bool x56)), (12, fun _ => True), (11, fun _ => True), (10, fun w => w.cell? ((Addr.mk b2 0 none).add 6) = some (Value.bool x55)), (9, fun _ => True), (8, fun _ => True), (7, fun w => w.cell? ((Addr.mk b1 0 none).add 6) = some (Value.bool x44)), (6, fun _ => True)]) (w' := w18) rfl rfl rfl ((x_store (v := (Value.bool true)) rfl rfl rfl SZ_4 (ones (by rfl)) q58).trans (by rw [hw58]; rfl)) (by kernel_rfl) (held_cons trivial (held_cons trivial (held_cons trivial (held_cons o13 (held_cons trivial (held_cons trivial (held_cons o10 (held_cons trivial (held_cons trivial (held_cons o7 (held_cons trivial held_nil))))))))))) ?_
          refine wpD_take (v := (Value.pointer (some ((Addr.mk b26 0 none).add 6)))) 20 (fun _ => True) rfl (by kernel_rfl) (by kernel_rfl) (by kernel_rfl) rfl rfl rfl trivial (fun w _ => (x_fieldAddr rfl e5 FA_24_6)) ?_
          refine wpD_all (rs := [21]) (by kernel_rfl) (by simp) (allD_cons ?_ allD_nil)
          obtain ⟨q59, h⟩ := h
          obtain ⟨w19, hw59⟩ : ∃ u, u = setAll w18 ((Addr.mk b26 0 none).add 6) [(Value.bool x55)] 0 := ⟨_, rfl⟩
          replace h := h w19 hw59
          obtain ⟨o13, h⟩ := h
          refine stepD_skpL (L' := [(17, fun _ => True), (16, fun _ => True), (15, fun _ => True), (13, fun w => w.cell? ((Addr.mk b1 0 none).add 7) = some (Value.bool x56)), (12, fun _ => True)]) (w' := w19) rfl rfl rfl ((x_store (v := (Value.bool x55)) rfl rfl rfl SZ_4 (ones (by rfl)) q59).trans (by rw [hw59]; rfl)) (by kernel_rfl) (held_cons trivial (held_cons trivial (held_cons trivial (held_cons o13 (held_cons trivial held_nil))))) ?_
          refine wpD_take (v := (Value.pointer (some ((Addr.mk b26 0 none).add 7)))) 22 (fun _ => True) rfl (by kernel_rfl) (by kernel_rfl) (by kernel_rfl) rfl rfl rfl trivial (fun w _ => (x_fieldAddr rfl e5 FA_24_7)) ?_
          refine wpD_all (rs := [23]) (by kernel_rfl) (by simp) (allD_cons ?_ allD_nil)
          obtain ⟨q60, h⟩ := h
          obtain ⟨w20, hw60⟩ : ∃ u, u = setAll w19 ((Addr.mk b26 0 none).add 7) [(Value.bool true)] 0 := ⟨_, rfl⟩
          replace h := h w20 hw60
          refine stepD_skpL (L' := []) (w' := w20) rfl rfl rfl ((x_store (v := (Value.bool true)) rfl rfl rfl SZ_4 (ones (by rfl)) q60).trans (by rw [hw60]; rfl)) (by kernel_rfl) held_nil ?_
          exact wpD_done (by kernel_rfl) ⟨(), ⟨e2, e3, e4, e5, trivial⟩, h⟩
        · replace h := h.2 hc57
          refine wpD_take (v := (Value.pointer (some ((Addr.mk b2 0 none).add 7)))) 15 (fun _ => True) rfl (by kernel_rfl) (by kernel_rfl) (by kernel_rfl) (wantG rfl rfl rfl hc57) rfl rfl trivial (fun w _ => (x_fieldAddr rfl e3 FA_24_7)) ?_
          obtain ⟨x61, q61, h⟩ := h
          refine wpD_take (v := (Value.bool x61)) 16 (fun w => w.cell? ((Addr.mk b2 0 none).add 7) = some (Value.bool x61)) rfl (by kernel_rfl) (by kernel_rfl) (by kernel_rfl) (wantG rfl rfl rfl hc57) rfl rfl q61 (fun w q61 => (x_load1 rfl rfl SH_4 q61)) ?_
          refine wpD_take (v := (Value.bool x61)) 17 (fun _ => True) rfl (by kernel_rfl) (by kernel_rfl) (by kernel_rfl) rfl rfl rfl trivial (fun w _ => (x_pickF (v := (Value.bool x61)) rfl rfl hc57 rfl)) ?_
          refine wpD_take (v := (Value.pointer (some ((Addr.mk b26 0 none).add 4)))) 18 (fun _ => True) rfl (by kernel_rfl) (by kernel_rfl) (by kernel_rfl) rfl rfl rfl trivial (fun w _ => (x_fieldAddr rfl e5 FA_24_4)) ?_
          refine wpD_all (rs := [19]) (by kernel_rfl) (by simp) (allD_cons ?_ allD_nil)
          obtain ⟨q62, h⟩ := h
          obtain ⟨w21, hw62⟩ : ∃ u, u = setAll w11 ((Addr.mk b26 0 none).add 4) [(Value.bool true)] 0 := ⟨_, rfl⟩
          replace h := h w21 hw62
          obtain ⟨o16, h⟩ := h
          obtain ⟨o13, h⟩ := h
          obtain ⟨o10, h⟩ := h
          obtain ⟨o7, h⟩ := h
          refine stepD_skpL (L' := [(17, fun _ => True), (16, fun w => w.cell? ((Addr.mk b2 0 none).add 7) = some (Value.bool x61)), (15, fun _ => True), (13, fun w => w.cell? ((Addr.mk b1 0 none).add 7) = some (Value.bool x56)), (12, fun _ => True), (11, fun _ => True), (10, fun w => w.cell? ((Addr.mk b2 0 none).add 6) = some (Value.bool x55)), (9, fun _ => True), (8, fun _ => True), (7, fun w => w.cell? ((Addr.mk b1 0 none).add 6) = some (Value.bool x44)), (6, fun _ => True)]) (w' := w21) rfl rfl rfl ((x_store (v := (Value.bool true)) rfl rfl rfl SZ_4 (ones (by rfl)) q62).trans (by rw [hw62]; rfl)) (by kernel_rfl) (held_cons trivial (held_cons o16 (held_cons trivial (held_cons o13 (held_cons trivial (held_cons trivial (held_cons o10 (held_cons trivial (held_cons trivial (held_cons o7 (held_cons trivial held_nil))))))))))) ?_
          refine wpD_take (v := (Value.pointer (some ((Addr.mk b26 0 none).add 6)))) 20 (fun _ => True) rfl (by kernel_rfl) (by kernel_rfl) (by kernel_rfl) rfl rfl rfl trivial (fun w _ => (x_fieldAddr rfl e5 FA_24_6)) ?_
          refine wpD_all (rs := [21]) (by kernel_rfl) (by simp) (allD_cons ?_ allD_nil)
          obtain ⟨q63, h⟩ := h
          obtain ⟨w22, hw63⟩ : ∃ u, u = setAll w21 ((Addr.mk b26 0 none).add 6) [(Value.bool x55)] 0 := ⟨_, rfl⟩
          replace h := h w22 hw63
          obtain ⟨o16, h⟩ := h
          obtain ⟨o13, h⟩ := h
          refine stepD_skpL (L' := [(17, fun _ => True), (16, fun w => w.cell? ((Addr.mk b2 0 none).add 7) = some (Value.bool x61)), (15, fun _ => True), (13, fun w => w.cell? ((Addr.mk b1 0 none).add 7) = some (Value.bool x56)), (12, fun _ => True)]) (w' := w22) rfl rfl rfl ((x_store (v := (Value.bool x55)) rfl rfl rfl SZ_4 (ones (by rfl)) q63).trans (by rw [hw63]; rfl)) (by kernel_rfl) (held_cons trivial (held_cons o16 (held_cons trivial (held_cons o13 (held_cons trivial held_nil))))) ?_
          refine wpD_take (v := (Value.pointer (some ((Addr.mk b26 0 none).add 7)))) 22 (fun _ => True) rfl (by kernel_rfl) (by kernel_rfl) (by kernel_rfl) rfl rfl rfl trivial (fun w _ => (x_fieldAddr rfl e5 FA_24_7)) ?_
          refine wpD_all (rs := [23]) (by kernel_rfl) (by simp) (allD_cons ?_ allD_nil)
          obtain ⟨q64, h⟩ := h
          obtain ⟨w23, hw64⟩ : ∃ u, u = setAll w22 ((Addr.mk b26 0 none).add 7) [(Value.bool x61)] 0 := ⟨_, rfl⟩
          replace h := h w23 hw64
          refine stepD_skpL (L' := []) (w' := w23) rfl rfl rfl ((x_store (v := (Value.bool x61)) rfl rfl rfl SZ_4 (ones (by rfl)) q64).trans (by rw [hw64]; rfl)) (by kernel_rfl) held_nil ?_
          exact wpD_done (by kernel_rfl) ⟨(), ⟨e2, e3, e4, e5, trivial⟩, h⟩
    · replace h := h.2 hc43
      refine wpD_take (v := (Value.pointer (some ((Addr.mk b2 0 none).add 4)))) 3 (fun _ => True) rfl (by kernel_rfl) (by kernel_rfl) (by kernel_rfl) (wantG rfl rfl rfl hc43) rfl rfl trivial (fun w _ => (x_fieldAddr rfl e3 FA_24_4)) ?_
      obtain ⟨x65, q65, h⟩ := h
      refine wpD_take (v := (Value.bool x65)) 4 (fun w => w.cell? ((Addr.mk b2 0 none).add 4) = some (Value.bool x65)) rfl (by kernel_rfl) (by kernel_rfl) (by kernel_rfl) (wantG rfl rfl rfl hc43) rfl rfl q65 (fun w q65 => (x_load1 rfl rfl SH_4 q65)) ?_
      refine wpD_take (v := (Value.bool x65)) 5 (fun _ => True) rfl (by kernel_rfl) (by kernel_rfl) (by kernel_rfl) rfl rfl rfl trivial (fun w _ => (x_pickF (v := (Value.bool x65)) rfl rfl hc43 rfl)) ?_
      refine wpD_take (v := (Value.pointer (some ((Addr.mk b1 0 none).add 6)))) 6 (fun _ => True) rfl (by kernel_rfl) (by kernel_rfl) (by kernel_rfl) rfl rfl rfl trivial (fun w _ => (x_fieldAddr rfl e2 FA_24_6)) ?_
      obtain ⟨x66, q66, h⟩ := h
      refine wpD_take (v := (Value.bool x66)) 7 (fun w => w.cell? ((Addr.mk b1 0 none).add 6) = some (Value.bool x66)) rfl (by kernel_rfl) (by kernel_rfl) (by kernel_rfl) rfl rfl rfl q66 (fun w q66 => (x_load1 rfl rfl SH_4 q66)) ?_
      refine wpD_take (v := (Value.bool x66)) 8 (fun _ => True) rfl (by kernel_rfl) (by kernel_rfl) (by kernel_rfl) rfl rfl rfl trivial (fun w _ => (x_move (v := (Value.bool x66)) rfl rfl)) ?_
      rcases Bool.eq_false_or_eq_true (x66) with hc67 | hc67
      · replace h := h.1 hc67
        refine wpD_pass 9 rfl (by kernel_rfl) (by kernel_rfl) (by kernel_rfl) (wantN rfl rfl rfl hc67) rfl rfl ?_
        refine wpD_pass 10 rfl (by kernel_rfl) (by kernel_rfl) (by kernel_rfl) (wantN rfl rfl rfl hc67) rfl rfl ?_
        refine wpD_take (v := (Value.bool true)) 11 (fun _ => True) rfl (by kernel_rfl) (by kernel_rfl) (by kernel_rfl) rfl rfl rfl trivial (fun w _ => (x_pickT (v := (Value.bool true)) rfl rfl hc67 rfl)) ?_
        refine wpD_take (v := (Value.pointer (some ((Addr.mk b1 0 none).add 7)))) 12 (fun _ => True) rfl (by kernel_rfl) (by kernel_rfl) (by kernel_rfl) rfl rfl rfl trivial (fun w _ => (x_fieldAddr rfl e2 FA_24_7)) ?_
        obtain ⟨x68, q68, h⟩ := h
        refine wpD_take (v := (Value.bool x68)) 13 (fun w => w.cell? ((Addr.mk b1 0 none).add 7) = some (Value.bool x68)) rfl (by kernel_rfl) (by kernel_rfl) (by kernel_rfl) rfl rfl rfl q68 (fun w q68 => (x_load1 rfl rfl SH_4 q68)) ?_
        refine wpD_take (v := (Value.bool x68)) 14 (fun _ => True) rfl (by kernel_rfl) (by kernel_rfl) (by kernel_rfl) rfl rfl rfl trivial (fun w _ => (x_move (v := (Value.bool x68)) rfl rfl)) ?_
        rcases Bool.eq_false_or_eq_true (x68) with hc69 | hc69
        · replace h := h.1 hc69
          refine wpD_pass 15 rfl (by kernel_rfl) (by kernel_rfl) (by kernel_rfl) (wantN rfl rfl rfl hc69) rfl rfl ?_
          refine wpD_pass 16 rfl (by kernel_rfl) (by kernel_rfl) (by kernel_rfl) (wantN rfl rfl rfl hc69) rfl rfl ?_
          refine wpD_take (v := (Value.bool true)) 17 (fun _ => True) rfl (by kernel_rfl) (by kernel_rfl) (by kernel_rfl) rfl rfl rfl trivial (fun w _ => (x_pickT (v := (Value.bool true)) rfl rfl hc69 rfl)) ?_
          refine wpD_take (v := (Value.pointer (some ((Addr.mk b26 0 none).add 4)))) 18 (fun _ => True) rfl (by kernel_rfl) (by kernel_rfl) (by kernel_rfl) rfl rfl rfl trivial (fun w _ => (x_fieldAddr rfl e5 FA_24_4)) ?_
          refine wpD_all (rs := [19]) (by kernel_rfl) (by simp) (allD_cons ?_ allD_nil)
          obtain ⟨q70, h⟩ := h
          obtain ⟨w24, hw70⟩ : ∃ u, u = setAll w11 ((Addr.mk b26 0 none).add 4) [(Value.bool x65)] 0 := ⟨_, rfl⟩
          replace h := h w24 hw70
          obtain ⟨o13, h⟩ := h
          obtain ⟨o7, h⟩ := h
          refine stepD_skpL (L' := [(17, fun _ => True), (16, fun _ => True), (15, fun _ => True), (13, fun w => w.cell? ((Addr.mk b1 0 none).add 7) = some (Value.bool x68)), (12, fun _ => True), (11, fun _ => True), (10, fun _ => True), (9, fun _ => True), (8, fun _ => True), (7, fun w => w.cell? ((Addr.mk b1 0 none).add 6) = some (Value.bool x66)), (6, fun _ => True)]) (w' := w24) rfl rfl rfl ((x_store (v := (Value.bool x65)) rfl rfl rfl SZ_4 (ones (by rfl)) q70).trans (by rw [hw70]; rfl)) (by kernel_rfl) (held_cons trivial (held_cons trivial (held_cons trivial (held_cons o13 (held_cons trivial (held_cons trivial (held_cons trivial (held_cons trivial (held_cons trivial (held_cons o7 (held_cons trivial held_nil))))))))))) ?_
          refine wpD_take (v := (Value.pointer (some ((Addr.mk b26 0 none).add 6)))) 20 (fun _ => True) rfl (by kernel_rfl) (by kernel_rfl) (by kernel_rfl) rfl rfl rfl trivial (fun w _ => (x_fieldAddr rfl e5 FA_24_6)) ?_
          refine wpD_all (rs := [21]) (by kernel_rfl) (by simp) (allD_cons ?_ allD_nil)
          obtain ⟨q71, h⟩ := h
          obtain ⟨w25, hw71⟩ : ∃ u, u = setAll w24 ((Addr.mk b26 0 none).add 6) [(Value.bool true)] 0 := ⟨_, rfl⟩
          replace h := h w25 hw71
          obtain ⟨o13, h⟩ := h
          refine stepD_skpL (L' := [(17, fun _ => True), (16, fun _ => True), (15, fun _ => True), (13, fun w => w.cell? ((Addr.mk b1 0 none).add 7) = some (Value.bool x68)), (12, fun _ => True)]) (w' := w25) rfl rfl rfl ((x_store (v := (Value.bool true)) rfl rfl rfl SZ_4 (ones (by rfl)) q71).trans (by rw [hw71]; rfl)) (by kernel_rfl) (held_cons trivial (held_cons trivial (held_cons trivial (held_cons o13 (held_cons trivial held_nil))))) ?_
          refine wpD_take (v := (Value.pointer (some ((Addr.mk b26 0 none).add 7)))) 22 (fun _ => True) rfl (by kernel_rfl) (by kernel_rfl) (by kernel_rfl) rfl rfl rfl trivial (fun w _ => (x_fieldAddr rfl e5 FA_24_7)) ?_
          refine wpD_all (rs := [23]) (by kernel_rfl) (by simp) (allD_cons ?_ allD_nil)
          obtain ⟨q72, h⟩ := h
          obtain ⟨w26, hw72⟩ : ∃ u, u = setAll w25 ((Addr.mk b26 0 none).add 7) [(Value.bool true)] 0 := ⟨_, rfl⟩
          replace h := h w26 hw72
          refine stepD_skpL (L' := []) (w' := w26) rfl rfl rfl ((x_store (v := (Value.bool true)) rfl rfl rfl SZ_4 (ones (by rfl)) q72).trans (by rw [hw72]; rfl)) (by kernel_rfl) held_nil ?_
          exact wpD_done (by kernel_rfl) ⟨(), ⟨e2, e3, e4, e5, trivial⟩, h⟩
        · replace h := h.2 hc69
          refine wpD_take (v := (Value.pointer (some ((Addr.mk b2 0 none).add 7)))) 15 (fun _ => True) rfl (by kernel_rfl) (by kernel_rfl) (by kernel_rfl) (wantG rfl rfl rfl hc69) rfl rfl trivial (fun w _ => (x_fieldAddr rfl e3 FA_24_7)) ?_
          obtain ⟨x73, q73, h⟩ := h
          refine wpD_take (v := (Value.bool x73)) 16 (fun w => w.cell? ((Addr.mk b2 0 none).add 7) = some (Value.bool x73)) rfl (by kernel_rfl) (by kernel_rfl) (by kernel_rfl) (wantG rfl rfl rfl hc69) rfl rfl q73 (fun w q73 => (x_load1 rfl rfl SH_4 q73)) ?_
          refine wpD_take (v := (Value.bool x73)) 17 (fun _ => True) rfl (by kernel_rfl) (by kernel_rfl) (by kernel_rfl) rfl rfl rfl trivial (fun w _ => (x_pickF (v := (Value.bool x73)) rfl rfl hc69 rfl)) ?_
          refine wpD_take (v := (Value.pointer (some ((Addr.mk b26 0 none).add 4)))) 18 (fun _ => True) rfl (by kernel_rfl) (by kernel_rfl) (by kernel_rfl) rfl rfl rfl trivial (fun w _ => (x_fieldAddr rfl e5 FA_24_4)) ?_
          refine wpD_all (rs := [19]) (by kernel_rfl) (by simp) (allD_cons ?_ allD_nil)
          obtain ⟨q74, h⟩ := h
          obtain ⟨w27, hw74⟩ : ∃ u, u = setAll w11 ((Addr.mk b26 0 none).add 4) [(Value.bool x65)] 0 := ⟨_, rfl⟩
          replace h := h w27 hw74
          obtain ⟨o16, h⟩ := h
          obtain ⟨o13, h⟩ := h
          obtain ⟨o7, h⟩ := h
          refine stepD_skpL (L' := [(17, fun _ => True), (16, fun w => w.cell? ((Addr.mk b2 0 none).add 7) = some (Value.bool x73)), (15, fun _ => True), (13, fun w => w.cell? ((Addr.mk b1 0 none).add 7) = some (Value.bool x68)), (12, fun _ => True), (11, fun _ => True), (10, fun _ => True), (9, fun _ => True), (8, fun _ => True), (7, fun w => w.cell? ((Addr.mk b1 0 none).add 6) = some (Value.bool x66)), (6, fun _ => True)]) (w' := w27) rfl rfl rfl ((x_store (v := (Value.bool x65)) rfl rfl rfl SZ_4 (ones (by rfl)) q74).trans (by rw [hw74]; rfl)) (by kernel_rfl) (held_cons trivial (held_cons o16 (held_cons trivial (held_cons o13 (held_cons trivial (held_cons trivial (held_cons trivial (held_cons trivial (held_cons trivial (held_cons o7 (held_cons trivial held_nil))))))))))) ?_
          refine wpD_take (v := (Value.pointer (some ((Addr.mk b26 0 none).add 6)))) 20 (fun _ => True) rfl (by kernel_rfl) (by kernel_rfl) (by kernel_rfl) rfl rfl rfl trivial (fun w _ => (x_fieldAddr rfl e5 FA_24_6)) ?_
          refine wpD_all (rs := [21]) (by kernel_rfl) (by simp) (allD_cons ?_ allD_nil)
          obtain ⟨q75, h⟩ := h
          obtain ⟨w28, hw75⟩ : ∃ u, u = setAll w27 ((Addr.mk b26 0 none).add 6) [(Value.bool true)] 0 := ⟨_, rfl⟩
          replace h := h w28 hw75
          obtain ⟨o16, h⟩ := h
          obtain ⟨o13, h⟩ := h
          refine stepD_skpL (L' := [(17, fun _ => True), (16, fun w => w.cell? ((Addr.mk b2 0 none).add 7) = some (Value.bool x73)), (15, fun _ => True), (13, fun w => w.cell? ((Addr.mk b1 0 none).add 7) = some (Value.bool x68)), (12, fun _ => True)]) (w' := w28) rfl rfl rfl ((x_store (v := (Value.bool true)) rfl rfl rfl SZ_4 (ones (by rfl)) q75).trans (by rw [hw75]; rfl)) (by kernel_rfl) (held_cons trivial (held_cons o16 (held_cons trivial (held_cons o13 (held_cons trivial held_nil))))) ?_
          refine wpD_take (v := (Value.pointer (some ((Addr.mk b26 0 none).add 7)))) 22 (fun _ => True) rfl (by kernel_rfl) (by kernel_rfl) (by kernel_rfl) rfl rfl rfl trivial (fun w _ => (x_fieldAddr rfl e5 FA_24_7)) ?_
          refine wpD_all (rs := [23]) (by kernel_rfl) (by simp) (allD_cons ?_ allD_nil)
          obtain ⟨q76, h⟩ := h
          obtain ⟨w29, hw76⟩ : ∃ u, u = setAll w28 ((Addr.mk b26 0 none).add 7) [(Value.bool x73)] 0 := ⟨_, rfl⟩
          replace h := h w29 hw76
          refine stepD_skpL (L' := []) (w' := w29) rfl rfl rfl ((x_store (v := (Value.bool x73)) rfl rfl rfl SZ_4 (ones (by rfl)) q76).trans (by rw [hw76]; rfl)) (by kernel_rfl) held_nil ?_
          exact wpD_done (by kernel_rfl) ⟨(), ⟨e2, e3, e4, e5, trivial⟩, h⟩
      · replace h := h.2 hc67
        refine wpD_take (v := (Value.pointer (some ((Addr.mk b2 0 none).add 6)))) 9 (fun _ => True) rfl (by kernel_rfl) (by kernel_rfl) (by kernel_rfl) (wantG rfl rfl rfl hc67) rfl rfl trivial (fun w _ => (x_fieldAddr rfl e3 FA_24_6)) ?_
        obtain ⟨x77, q77, h⟩ := h
        refine wpD_take (v := (Value.bool x77)) 10 (fun w => w.cell? ((Addr.mk b2 0 none).add 6) = some (Value.bool x77)) rfl (by kernel_rfl) (by kernel_rfl) (by kernel_rfl) (wantG rfl rfl rfl hc67) rfl rfl q77 (fun w q77 => (x_load1 rfl rfl SH_4 q77)) ?_
        refine wpD_take (v := (Value.bool x77)) 11 (fun _ => True) rfl (by kernel_rfl) (by kernel_rfl) (by kernel_rfl) rfl rfl rfl trivial (fun w _ => (x_pickF (v := (Value.bool x77)) rfl rfl hc67 rfl)) ?_
        refine wpD_take (v := (Value.pointer (some ((Addr.mk b1 0 none).add 7)))) 12 (fun _ => True) rfl (by kernel_rfl) (by kernel_rfl) (by kernel_rfl) rfl rfl rfl trivial (fun w _ => (x_fieldAddr rfl e2 FA_24_7)) ?_
        obtain ⟨x78, q78, h⟩ := h
        refine wpD_take (v := (Value.bool x78)) 13 (fun w => w.cell? ((Addr.mk b1 0 none).add 7) = some (Value.bool x78)) rfl (by kernel_rfl) (by kernel_rfl) (by kernel_rfl) rfl rfl rfl q78 (fun w q78 => (x_load1 rfl rfl SH_4 q78)) ?_
        refine wpD_take (v := (Value.bool x78)) 14 (fun _ => True) rfl (by kernel_rfl) (by kernel_rfl) (by kernel_rfl) rfl rfl rfl trivial (fun w _ => (x_move (v := (Value.bool x78)) rfl rfl)) ?_
        rcases Bool.eq_false_or_eq_true (x78) with hc79 | hc79
        · replace h := h.1 hc79
          refine wpD_pass 15 rfl (by kernel_rfl) (by kernel_rfl) (by kernel_rfl) (wantN rfl rfl rfl hc79) rfl rfl ?_
          refine wpD_pass 16 rfl (by kernel_rfl) (by kernel_rfl) (by kernel_rfl) (wantN rfl rfl rfl hc79) rfl rfl ?_
          refine wpD_take (v := (Value.bool true)) 17 (fun _ => True) rfl (by kernel_rfl) (by kernel_rfl) (by kernel_rfl) rfl rfl rfl trivial (fun w _ => (x_pickT (v := (Value.bool true)) rfl rfl hc79 rfl)) ?_
          refine wpD_take (v := (Value.pointer (some ((Addr.mk b26 0 none).add 4)))) 18 (fun _ => True) rfl (by kernel_rfl) (by kernel_rfl) (by kernel_rfl) rfl rfl rfl trivial (fun w _ => (x_fieldAddr rfl e5 FA_24_4)) ?_
          refine wpD_all (rs := [19]) (by kernel_rfl) (by simp) (allD_cons ?_ allD_nil)
          obtain ⟨q80, h⟩ := h
          obtain ⟨w30, hw80⟩ : ∃ u, u = setAll w11 ((Addr.mk b26 0 none).add 4) [(Value.bool x65)] 0 := ⟨_, rfl⟩
          replace h := h w30 hw80
          obtain ⟨o13, h⟩ := h
          obtain ⟨o10, h⟩ := h
          obtain ⟨o7, h⟩ := h
          refine stepD_skpL (L' := [(17, fun _ => True), (16, fun _ => True), (15, fun _ => True), (13, fun w => w.cell? ((Addr.mk b1 0 none).add 7) = some (Value.bool x78)), (12, fun _ => True), (11, fun _ => True), (10, fun w => w.cell? ((Addr.mk b2 0 none).add 6) = some (Value.bool x77)), (9, fun _ => True), (8, fun _ => True), (7, fun w => w.cell? ((Addr.mk b1 0 none).add 6) = some (Value.bool x66)), (6, fun _ => True)]) (w' := w30) rfl rfl rfl ((x_store (v := (Value.bool x65)) rfl rfl rfl SZ_4 (ones (by rfl)) q80).trans (by rw [hw80]; rfl)) (by kernel_rfl) (held_cons trivial (held_cons trivial (held_cons trivial (held_cons o13 (held_cons trivial (held_cons trivial (held_cons o10 (held_cons trivial (held_cons trivial (held_cons o7 (held_cons trivial held_nil))))))))))) ?_
          refine wpD_take (v := (Value.pointer (some ((Addr.mk b26 0 none).add 6)))) 20 (fun _ => True) rfl (by kernel_rfl) (by kernel_rfl) (by kernel_rfl) rfl rfl rfl trivial (fun w _ => (x_fieldAddr rfl e5 FA_24_6)) ?_
          refine wpD_all (rs := [21]) (by kernel_rfl) (by simp) (allD_cons ?_ allD_nil)
          obtain ⟨q81, h⟩ := h
          obtain ⟨w31, hw81⟩ : ∃ u, u = setAll w30 ((Addr.mk b26 0 none).add 6) [(Value.bool x77)] 0 := ⟨_, rfl⟩
          replace h := h w31 hw81
          obtain ⟨o13, h⟩ := h
          refine stepD_skpL (L' := [(17, fun _ => True), (16, fun _ => True), (15, fun _ => True), (13, fun w => w.cell? ((Addr.mk b1 0 none).add 7) = some (Value.bool x78)), (12, fun _ => True)]) (w' := w31) rfl rfl rfl ((x_store (v := (Value.bool x77)) rfl rfl rfl SZ_4 (ones (by rfl)) q81).trans (by rw [hw81]; rfl)) (by kernel_rfl) (held_cons trivial (held_cons trivial (held_cons trivial (held_cons o13 (held_cons trivial held_nil))))) ?_
          refine wpD_take (v := (Value.pointer (some ((Addr.mk b26 0 none).add 7)))) 22 (fun _ => True) rfl (by kernel_rfl) (by kernel_rfl) (by kernel_rfl) rfl rfl rfl trivial (fun w _ => (x_fieldAddr rfl e5 FA_24_7)) ?_
          refine wpD_all (rs := [23]) (by kernel_rfl) (by simp) (allD_cons ?_ allD_nil)
          obtain ⟨q82, h⟩ := h
          obtain ⟨w32, hw82⟩ : ∃ u, u = setAll w31 ((Addr.mk b26 0 none).add 7) [(Value.bool true)] 0 := ⟨_, rfl⟩
          replace h := h w32 hw82
          refine stepD_skpL (L' := []) (w' := w32) rfl rfl rfl ((x_store (v := (Value.bool true)) rfl rfl rfl SZ_4 (ones (by rfl)) q82).trans (by rw [hw82]; rfl)) (by kernel_rfl) held_nil ?_
          exact wpD_done (by kernel_rfl) ⟨(), ⟨e2, e3, e4, e5, trivial⟩, h⟩
        · replace h := h.2 hc79
          refine wpD_take (v := (Value.pointer (some ((Addr.mk b2 0 none).add 7)))) 15 (fun _ => True) rfl (by kernel_rfl) (by kernel_rfl) (by kernel_rfl) (wantG rfl rfl rfl hc79) rfl rfl trivial (fun w _ => (x_fieldAddr rfl e3 FA_24_7)) ?_
          obtain ⟨x83, q83, h⟩ := h
          refine wpD_take (v := (Value.bool x83)) 16 (fun w => w.cell? ((Addr.mk b2 0 none).add 7) = some (Value.bool x83)) rfl (by kernel_rfl) (by kernel_rfl) (by kernel_rfl) (wantG rfl rfl rfl hc79) rfl rfl q83 (fun w q83 => (x_load1 rfl rfl SH_4 q83)) ?_
          refine wpD_take (v := (Value.bool x83)) 17 (fun _ => True) rfl (by kernel_rfl) (by kernel_rfl) (by kernel_rfl) rfl rfl rfl trivial (fun w _ => (x_pickF (v := (Value.bool x83)) rfl rfl hc79 rfl)) ?_
          refine wpD_take (v := (Value.pointer (some ((Addr.mk b26 0 none).add 4)))) 18 (fun _ => True) rfl (by kernel_rfl) (by kernel_rfl) (by kernel_rfl) rfl rfl rfl trivial (fun w _ => (x_fieldAddr rfl e5 FA_24_4)) ?_
          refine wpD_all (rs := [19]) (by kernel_rfl) (by simp) (allD_cons ?_ allD_nil)
          obtain ⟨q84, h⟩ := h
          obtain ⟨w33, hw84⟩ : ∃ u, u = setAll w11 ((Addr.mk b26 0 none).add 4) [(Value.bool x65)] 0 := ⟨_, rfl⟩
          replace h := h w33 hw84
          obtain ⟨o16, h⟩ := h
          obtain ⟨o13, h⟩ := h
          obtain ⟨o10, h⟩ := h
          obtain ⟨o7, h⟩ := h
          refine stepD_skpL (L' := [(17, fun _ => True), (16, fun w => w.cell? ((Addr.mk b2 0 none).add 7) = some (Value.bool x83)), (15, fun _ => True), (13, fun w => w.cell? ((Addr.mk b1 0 none).add 7) = some (Value.bool x78)), (12, fun _ => True), (11, fun _ => True), (10, fun w => w.cell? ((Addr.mk b2 0 none).add 6) = some (Value.bool x77)), (9, fun _ => True), (8, fun _ => True), (7, fun w => w.cell? ((Addr.mk b1 0 none).add 6) = some (Value.bool x66)), (6, fun _ => True)]) (w' := w33) rfl rfl rfl ((x_store (v := (Value.bool x65)) rfl rfl rfl SZ_4 (ones (by rfl)) q84).trans (by rw [hw84]; rfl)) (by kernel_rfl) (held_cons trivial (held_cons o16 (held_cons trivial (held_cons o13 (held_cons trivial (held_cons trivial (held_cons o10 (held_cons trivial (held_cons trivial (held_cons o7 (held_cons trivial held_nil))))))))))) ?_
          refine wpD_take (v := (Value.pointer (some ((Addr.mk b26 0 none).add 6)))) 20 (fun _ => True) rfl (by kernel_rfl) (by kernel_rfl) (by kernel_rfl) rfl rfl rfl trivial (fun w _ => (x_fieldAddr rfl e5 FA_24_6)) ?_
          refine wpD_all (rs := [21]) (by kernel_rfl) (by simp) (allD_cons ?_ allD_nil)
          obtain ⟨q85, h⟩ := h
          obtain ⟨w34, hw85⟩ : ∃ u, u = setAll w33 ((Addr.mk b26 0 none).add 6) [(Value.bool x77)] 0 := ⟨_, rfl⟩
          replace h := h w34 hw85
          obtain ⟨o16, h⟩ := h
          obtain ⟨o13, h⟩ := h
          refine stepD_skpL (L' := [(17, fun _ => True), (16, fun w => w.cell? ((Addr.mk b2 0 none).add 7) = some (Value.bool x83)), (15, fun _ => True), (13, fun w => w.cell? ((Addr.mk b1 0 none).add 7) = some (Value.bool x78)), (12, fun _ => True)]) (w' := w34) rfl rfl rfl ((x_store (v := (Value.bool x77)) rfl rfl rfl SZ_4 (ones (by rfl)) q85).trans (by rw [hw85]; rfl)) (by kernel_rfl) (held_cons trivial (held_cons o16 (held_cons trivial (held_cons o13 (held_cons trivial held_nil))))) ?_
          refine wpD_take (v := (Value.pointer (some ((Addr.mk b26 0 none).add 7)))) 22 (fun _ => True) rfl (by kernel_rfl) (by kernel_rfl) (by kernel_rfl) rfl rfl rfl trivial (fun w _ => (x_fieldAddr rfl e5 FA_24_7)) ?_
          refine wpD_all (rs := [23]) (by kernel_rfl) (by simp) (allD_cons ?_ allD_nil)
          obtain ⟨q86, h⟩ := h
          obtain ⟨w35, hw86⟩ : ∃ u, u = setAll w34 ((Addr.mk b26 0 none).add 7) [(Value.bool x83)] 0 := ⟨_, rfl⟩
          replace h := h w35 hw86
          refine stepD_skpL (L' := []) (w' := w35) rfl rfl rfl ((x_store (v := (Value.bool x83)) rfl rfl rfl SZ_4 (ones (by rfl)) q86).trans (by rw [hw86]; rfl)) (by kernel_rfl) held_nil ?_
          exact wpD_done (by kernel_rfl) ⟨(), ⟨e2, e3, e4, e5, trivial⟩, h⟩
  clear h
  rintro l87 ρ w36 ⟨e2, e3, e4, e5, -⟩ h
  replace h := hk l87 w36 h
  clear hk
  refine wpC_seq ?_
  obtain ⟨J89, h, hk⟩ := h
  refine wpC_drawJ (by kernel_rfl) (fun (x : Unit) ρ => ρ 2 = (Value.pointer (some (Addr.mk b1 0 none))) ∧ ρ 3 = (Value.pointer (some (Addr.mk b2 0 none))) ∧ ρ 4 = (Value.pointer (some (Addr.mk b3 0 none))) ∧ ρ 5 = (Value.pointer (some (Addr.mk b26 0 none))) ∧ True) J89 ?_ ?_
  · clear hk
    unfold tk at h
    generalize w36.drew = w37 at h ⊢
    refine wpD_take (v := (Value.pointer (some ((Addr.mk b1 0 none).add 8)))) 0 (fun _ => True) rfl (by kernel_rfl) (by kernel_rfl) (by kernel_rfl) rfl rfl rfl trivial (fun w _ => (x_fieldAddr rfl e2 FA_24_8)) ?_
    obtain ⟨x90, q90, h⟩ := h
    refine wpD_take (v := (Value.int .i64 x90)) 1 (fun w => w.cell? ((Addr.mk b1 0 none).add 8) = some (Value.int .i64 x90)) rfl (by kernel_rfl) (by kernel_rfl) (by kernel_rfl) rfl rfl rfl q90 (fun w q90 => (x_load1 rfl rfl SH_3 q90)) ?_
    refine wpD_take (v := (Value.pointer (some ((Addr.mk b2 0 none).add 8)))) 2 (fun _ => True) rfl (by kernel_rfl) (by kernel_rfl) (by kernel_rfl) rfl rfl rfl trivial (fun w _ => (x_fieldAddr rfl e3 FA_24_8)) ?_
    obtain ⟨x91, q91, h⟩ := h
    refine wpD_take (v := (Value.int .i64 x91)) 3 (fun w => w.cell? ((Addr.mk b2 0 none).add 8) = some (Value.int .i64 x91)) rfl (by kernel_rfl) (by kernel_rfl) (by kernel_rfl) rfl rfl rfl q91 (fun w q91 => (x_load1 rfl rfl SH_3 q91)) ?_
    refine wpD_take (v := (Value.int .i64 (max x90 x91))) 4 (fun _ => True) rfl (by kernel_rfl) (by kernel_rfl) (by kernel_rfl) rfl rfl rfl trivial (fun w _ => (x_max rfl rfl rfl)) ?_
    refine wpD_take (v := (Value.pointer (some ((Addr.mk b1 0 none).add 9)))) 5 (fun _ => True) rfl (by kernel_rfl) (by kernel_rfl) (by kernel_rfl) rfl rfl rfl trivial (fun w _ => (x_fieldAddr rfl e2 FA_24_9)) ?_
    obtain ⟨x92, q92, h⟩ := h
    refine wpD_take (v := (Value.int .i64 x92)) 6 (fun w => w.cell? ((Addr.mk b1 0 none).add 9) = some (Value.int .i64 x92)) rfl (by kernel_rfl) (by kernel_rfl) (by kernel_rfl) rfl rfl rfl q92 (fun w q92 => (x_load1 rfl rfl SH_3 q92)) ?_
    refine wpD_take (v := (Value.pointer (some ((Addr.mk b2 0 none).add 9)))) 7 (fun _ => True) rfl (by kernel_rfl) (by kernel_rfl) (by kernel_rfl) rfl rfl rfl trivial (fun w _ => (x_fieldAddr rfl e3 FA_24_9)) ?_
    obtain ⟨x93, q93, h⟩ := h
    refine wpD_take (v := (Value.int .i64 x93)) 8 (fun w => w.cell? ((Addr.mk b2 0 none).add 9) = some (Value.int .i64 x93)) rfl (by kernel_rfl) (by kernel_rfl) (by kernel_rfl) rfl rfl rfl q93 (fun w q93 => (x_load1 rfl rfl SH_3 q93)) ?_
    refine wpD_take (v := (Value.int .i64 (max x92 x93))) 9 (fun _ => True) rfl (by kernel_rfl) (by kernel_rfl) (by kernel_rfl) rfl rfl rfl trivial (fun w _ => (x_max rfl rfl rfl)) ?_
    refine wpD_take (v := (Value.pointer (some ((Addr.mk b1 0 none).add 16)))) 10 (fun _ => True) rfl (by kernel_rfl) (by kernel_rfl) (by kernel_rfl) rfl rfl rfl trivial (fun w _ => (x_fieldAddr rfl e2 FA_24_16)) ?_
    obtain ⟨x94, q94, h⟩ := h
    refine wpD_take (v := (Value.int .i64 x94)) 11 (fun w => w.cell? ((Addr.mk b1 0 none).add 16) = some (Value.int .i64 x94)) rfl (by kernel_rfl) (by kernel_rfl) (by kernel_rfl) rfl rfl rfl q94 (fun w q94 => (x_load1 rfl rfl SH_3 q94)) ?_
    refine wpD_take (v := (Value.pointer (some ((Addr.mk b2 0 none).add 16)))) 12 (fun _ => True) rfl (by kernel_rfl) (by kernel_rfl) (by kernel_rfl) rfl rfl rfl trivial (fun w _ => (x_fieldAddr rfl e3 FA_24_16)) ?_
    obtain ⟨x95, q95, h⟩ := h
    refine wpD_take (v := (Value.int .i64 x95)) 13 (fun w => w.cell? ((Addr.mk b2 0 none).add 16) = some (Value.int .i64 x95)) rfl (by kernel_rfl) (by kernel_rfl) (by kernel_rfl) rfl rfl rfl q95 (fun w q95 => (x_load1 rfl rfl SH_3 q95)) ?_
    refine wpD_take (v := (Value.int .i64 (max x94 x95))) 14 (fun _ => True) rfl (by kernel_rfl) (by kernel_rfl) (by kernel_rfl) rfl rfl rfl trivial (fun w _ => (x_max rfl rfl rfl)) ?_
    refine wpD_take (v := (Value.pointer (some ((Addr.mk b26 0 none).add 8)))) 15 (fun _ => True) rfl (by kernel_rfl) (by kernel_rfl) (by kernel_rfl) rfl rfl rfl trivial (fun w _ => (x_fieldAddr rfl e5 FA_24_8)) ?_
    refine wpD_all (rs := [16]) (by kernel_rfl) (by simp) (allD_cons ?_ allD_nil)
    obtain ⟨q96, h⟩ := h
    obtain ⟨w38, hw96⟩ : ∃ u, u = setAll w37 ((Addr.mk b26 0 none).add 8) [(Value.int .i64 (max x90 x91))] 0 := ⟨_, rfl⟩
    replace h := h w38 hw96
    obtain ⟨o13, h⟩ := h
    obtain ⟨o11, h⟩ := h
    obtain ⟨o8, h⟩ := h
    obtain ⟨o6, h⟩ := h
    refine stepD_skpL (L' := [(14, fun _ => True), (13, fun w => w.cell? ((Addr.mk b2 0 none).add 16) = some (Value.int .i64 x95)), (12, fun _ => True), (11, fun w => w.cell? ((Addr.mk b1 0 none).add 16) = some (Value.int .i64 x94)), (10, fun _ => True), (9, fun _ => True), (8, fun w => w.cell? ((Addr.mk b2 0 none).add 9) = some (Value.int .i64 x93)), (7, fun _ => True), (6, fun w => w.cell? ((Addr.mk b1 0 none).add 9) = some (Value.int .i64 x92)), (5, fun _ => True)]) (w' := w38) rfl rfl rfl ((x_store (v := (Value.int .i64 (max x90 x91))) rfl rfl rfl SZ_3 (ones (by rfl)) q96).trans (by rw [hw96]; rfl)) (by kernel_rfl) (held_cons trivial (held_cons o13 (held_cons trivial (held_cons o11 (held_cons trivial (held_cons trivial (held_cons o8 (held_cons trivial (held_cons o6 (held_cons trivial held_nil)))))))))) ?_
    refine wpD_take (v := (Value.pointer (some ((Addr.mk b26 0 none).add 9)))) 17 (fun _ => True) rfl (by kernel_rfl) (by kernel_rfl) (by kernel_rfl) rfl rfl rfl trivial (fun w _ => (x_fieldAddr rfl e5 FA_24_9)) ?_
    refine wpD_all (rs := [18]) (by kernel_rfl) (by simp) (allD_cons ?_ allD_nil)
    obtain ⟨q97, h⟩ := h
    obtain ⟨w39, hw97⟩ : ∃ u, u = setAll w38 ((Addr.mk b26 0 none).add 9) [(Value.int .i64 (max x92 x93))] 0 := ⟨_, rfl⟩
    replace h := h w39 hw97
    obtain ⟨o13, h⟩ := h
    obtain ⟨o11, h⟩ := h
    refine stepD_skpL (L' := [(14, fun _ => True), (13, fun w => w.cell? ((Addr.mk b2 0 none).add 16) = some (Value.int .i64 x95)), (12, fun _ => True), (11, fun w => w.cell? ((Addr.mk b1 0 none).add 16) = some (Value.int .i64 x94)), (10, fun _ => True)]) (w' := w39) rfl rfl rfl ((x_store (v := (Value.int .i64 (max x92 x93))) rfl rfl rfl SZ_3 (ones (by rfl)) q97).trans (by rw [hw97]; rfl)) (by kernel_rfl) (held_cons trivial (held_cons o13 (held_cons trivial (held_cons o11 (held_cons trivial held_nil))))) ?_
    refine wpD_take (v := (Value.pointer (some ((Addr.mk b26 0 none).add 16)))) 19 (fun _ => True) rfl (by kernel_rfl) (by kernel_rfl) (by kernel_rfl) rfl rfl rfl trivial (fun w _ => (x_fieldAddr rfl e5 FA_24_16)) ?_
    refine wpD_all (rs := [20]) (by kernel_rfl) (by simp) (allD_cons ?_ allD_nil)
    obtain ⟨q98, h⟩ := h
    obtain ⟨w40, hw98⟩ : ∃ u, u = setAll w39 ((Addr.mk b26 0 none).add 16) [(Value.int .i64 (max x94 x95))] 0 := ⟨_, rfl⟩
    replace h := h w40 hw98
    refine stepD_skpL (L' := []) (w' := w40) rfl rfl rfl ((x_store (v := (Value.int .i64 (max x94 x95))) rfl rfl rfl SZ_3 (ones (by rfl)) q98).trans (by rw [hw98]; rfl)) (by kernel_rfl) held_nil ?_
    exact wpD_done (by kernel_rfl) ⟨(), ⟨e2, e3, e4, e5, trivial⟩, h⟩
  clear h
  rintro l99 ρ w41 ⟨e2, e3, e4, e5, -⟩ h
  replace h := hk l99 w41 h
  clear hk
  refine wpC_seq ?_
  obtain ⟨J101, h, hk⟩ := h
  refine wpC_drawJ (by kernel_rfl) (fun (x : Unit) ρ => ρ 2 = (Value.pointer (some (Addr.mk b1 0 none))) ∧ ρ 3 = (Value.pointer (some (Addr.mk b2 0 none))) ∧ ρ 4 = (Value.pointer (some (Addr.mk b3 0 none))) ∧ ρ 5 = (Value.pointer (some (Addr.mk b26 0 none))) ∧ True) J101 ?_ ?_
  · clear hk
    unfold tk at h
    generalize w41.drew = w42 at h ⊢
    refine wpD_take (v := (Value.pointer (some ((Addr.mk b1 0 none).add 10)))) 0 (fun _ => True) rfl (by kernel_rfl) (by kernel_rfl) (by kernel_rfl) rfl rfl rfl trivial (fun w _ => (x_fieldAddr rfl e2 FA_24_10)) ?_
    obtain ⟨x102, q102, h⟩ := h
    refine wpD_take (v := (Value.int .i64 x102)) 1 (fun w => w.cell? ((Addr.mk b1 0 none).add 10) = some (Value.int .i64 x102)) rfl (by kernel_rfl) (by kernel_rfl) (by kernel_rfl) rfl rfl rfl q102 (fun w q102 => (x_load1 rfl rfl SH_3 q102)) ?_
    refine wpD_take (v := (Value.pointer (some ((Addr.mk b2 0 none).add 10)))) 2 (fun _ => True) rfl (by kernel_rfl) (by kernel_rfl) (by kernel_rfl) rfl rfl rfl trivial (fun w _ => (x_fieldAddr rfl e3 FA_24_10)) ?_
    obtain ⟨x103, q103, h⟩ := h
    refine wpD_take (v := (Value.int .i64 x103)) 3 (fun w => w.cell? ((Addr.mk b2 0 none).add 10) = some (Value.int .i64 x103)) rfl (by kernel_rfl) (by kernel_rfl) (by kernel_rfl) rfl rfl rfl q103 (fun w q103 => (x_load1 rfl rfl SH_3 q103)) ?_
    refine wpD_take (v := (Value.int .i64 (max x102 x103))) 4 (fun _ => True) rfl (by kernel_rfl) (by kernel_rfl) (by kernel_rfl) rfl rfl rfl trivial (fun w _ => (x_max rfl rfl rfl)) ?_
    refine wpD_take (v := (Value.pointer (some ((Addr.mk b1 0 none).add 11)))) 5 (fun _ => True) rfl (by kernel_rfl) (by kernel_rfl) (by kernel_rfl) rfl rfl rfl trivial (fun w _ => (x_fieldAddr rfl e2 FA_24_11)) ?_
    obtain ⟨x104, q104, h⟩ := h
    refine wpD_take (v := (Value.int .i64 x104)) 6 (fun w => w.cell? ((Addr.mk b1 0 none).add 11) = some (Value.int .i64 x104)) rfl (by kernel_rfl) (by kernel_rfl) (by kernel_rfl) rfl rfl rfl q104 (fun w q104 => (x_load1 rfl rfl SH_3 q104)) ?_
    refine wpD_take (v := (Value.pointer (some ((Addr.mk b2 0 none).add 11)))) 7 (fun _ => True) rfl (by kernel_rfl) (by kernel_rfl) (by kernel_rfl) rfl rfl rfl trivial (fun w _ => (x_fieldAddr rfl e3 FA_24_11)) ?_
    obtain ⟨x105, q105, h⟩ := h
    refine wpD_take (v := (Value.int .i64 x105)) 8 (fun w => w.cell? ((Addr.mk b2 0 none).add 11) = some (Value.int .i64 x105)) rfl (by kernel_rfl) (by kernel_rfl) (by kernel_rfl) rfl rfl rfl q105 (fun w q105 => (x_load1 rfl rfl SH_3 q105)) ?_
    refine wpD_take (v := (Value.int .i64 (max x104 x105))) 9 (fun _ => True) rfl (by kernel_rfl) (by kernel_rfl) (by kernel_rfl) rfl rfl rfl trivial (fun w _ => (x_max rfl rfl rfl)) ?_
    refine wpD_take (v := (Value.pointer (some ((Addr.mk b26 0 none).add 10)))) 10 (fun _ => True) rfl (by kernel_rfl) (by kernel_rfl) (by kernel_rfl) rfl rfl rfl trivial (fun w _ => (x_fieldAddr rfl e5 FA_24_10)) ?_
    refine wpD_all (rs := [11]) (by kernel_rfl) (by simp) (allD_cons ?_ allD_nil)
    obtain ⟨q106, h⟩ := h
    obtain ⟨w43, hw106⟩ : ∃ u, u = setAll w42 ((Addr.mk b26 0 none).add 10) [(Value.int .i64 (max x102 x103))] 0 := ⟨_, rfl⟩
    replace h := h w43 hw106
    obtain ⟨o8, h⟩ := h
    obtain ⟨o6, h⟩ := h
    refine stepD_skpL (L' := [(9, fun _ => True), (8, fun w => w.cell? ((Addr.mk b2 0 none).add 11) = some (Value.int .i64 x105)), (7, fun _ => True), (6, fun w => w.cell? ((Addr.mk b1 0 none).add 11) = some (Value.int .i64 x104)), (5, fun _ => True)]) (w' := w43) rfl rfl rfl ((x_store (v := (Value.int .i64 (max x102 x103))) rfl rfl rfl SZ_3 (ones (by rfl)) q106).trans (by rw [hw106]; rfl)) (by kernel_rfl) (held_cons trivial (held_cons o8 (held_cons trivial (held_cons o6 (held_cons trivial held_nil))))) ?_
    refine wpD_take (v := (Value.pointer (some ((Addr.mk b26 0 none).add 11)))) 12 (fun _ => True) rfl (by kernel_rfl) (by kernel_rfl) (by kernel_rfl) rfl rfl rfl trivial (fun w _ => (x_fieldAddr rfl e5 FA_24_11)) ?_
    refine wpD_all (rs := [13]) (by kernel_rfl) (by simp) (allD_cons ?_ allD_nil)
    obtain ⟨q107, h⟩ := h
    obtain ⟨w44, hw107⟩ : ∃ u, u = setAll w43 ((Addr.mk b26 0 none).add 11) [(Value.int .i64 (max x104 x105))] 0 := ⟨_, rfl⟩
    replace h := h w44 hw107
    refine stepD_skpL (L' := []) (w' := w44) rfl rfl rfl ((x_store (v := (Value.int .i64 (max x104 x105))) rfl rfl rfl SZ_3 (ones (by rfl)) q107).trans (by rw [hw107]; rfl)) (by kernel_rfl) held_nil ?_
    exact wpD_done (by kernel_rfl) ⟨(), ⟨e2, e3, e4, e5, trivial⟩, h⟩
  clear h
  rintro l108 ρ w45 ⟨e2, e3, e4, e5, -⟩ h
  replace h := hk l108 w45 h
  clear hk
  refine wpC_seq ?_
  refine wpC_region ?_
  obtain ⟨x109, q109, x110, q110, x111, q111, x112, q112, x113, q113, x114, q114, x115, q115, x116, q116, x117, q117, x118, q118, x119, q119, x120, q120, x121, q121, x122, q122, x123, q123, x124, q124, x125, q125, x126, q126, x127, q127, x128, q128, x129, q129, x130, q130, h⟩ := h
  refine wpR_val (v := (V23 x109 x110 x111 x112 x113 x114 x115 x116 x117 x118 x119 x120 x121 x122 x123 x124 x125 x126 x127 x128 x129 x130)) (w' := w45) rfl rfl rfl (x_loadN (S23 x109 x110 x111 x112 x113 x114 x115 x116 x117 x118 x119 x120 x121 x122 x123 x124 x125 x126 x127 x128 x129 x130) rfl e2 SH_24 (K23 ⟨q109, q110, q111, q112, q113, q114, q115, q116, q117, q118, q119, q120, q121, q122, q123, q124, q125, q126, q127, q128, q129, q130⟩)) ?_
  obtain ⟨x131, q131, x132, q132, x133, q133, x134, q134, x135, q135, x136, q136, x137, q137, x138, q138, x139, q139, x140, q140, x141, q141, x142, q142, x143, q143, x144, q144, x145, q145, x146, q146, x147, q147, x148, q148, x149, q149, x150, q150, x151, q151, x152, q152, h⟩ := h
  refine wpR_val (v := (V23 x131 x132 x133 x134 x135 x136 x137 x138 x139 x140 x141 x142 x143 x144 x145 x146 x147 x148 x149 x150 x151 x152)) (w' := w45) rfl rfl rfl (x_loadN (S23 x131 x132 x133 x134 x135 x136 x137 x138 x139 x140 x141 x142 x143 x144 x145 x146 x147 x148 x149 x150 x151 x152) rfl e3 SH_24 (K23 ⟨q131, q132, q133, q134, q135, q136, q137, q138, q139, q140, q141, q142, q143, q144, q145, q146, q147, q148, q149, q150, q151, q152⟩)) ?_
  refine wpR_enter rfl rfl rfl (x_call (vs := [(V23 x109 x110 x111 x112 x113 x114 x115 x116 x117 x118 x119 x120 x121 x122 x123 x124 x125 x126 x127 x128 x129 x130), (V23 x131 x132 x133 x134 x135 x136 x137 x138 x139 x140 x141 x142 x143 x144 x145 x146 x147 x148 x149 x150 x151 x152)]) rfl rfl (mapl_cons rfl (mapl_cons rfl mapl_nil)) Try.func34 NN_34 NB_34) (Calls.mono h ?_)
  rintro _ w46 ⟨r153, rfl, h⟩
  refine ⟨_, rfl, ?_⟩
  refine wpR_val (v := (Value.pointer (some ((Addr.mk b26 0 none).add 2)))) (w' := w46) rfl rfl rfl (x_fieldAddr rfl e5 FA_24_2) ?_
  obtain ⟨q154, h⟩ := h
  obtain ⟨w47, hw154⟩ : ∃ u, u = setAll w46 ((Addr.mk b26 0 none).add 2) [(Value.int .i64 r153)] 0 := ⟨_, rfl⟩
  replace h := h w47 hw154
  refine wpR_skp (w' := w47) rfl rfl ((x_store (v := (Value.int .i64 r153)) rfl rfl rfl SZ_3 (ones (by rfl)) q154).trans (by rw [hw154]; rfl)) ?_
  refine wpR_nil ?_
  refine wpC_seq ?_
  refine wpC_cut (fun ρ => ρ 2 = (Value.pointer (some (Addr.mk b1 0 none))) ∧ ρ 3 = (Value.pointer (some (Addr.mk b2 0 none))) ∧ ρ 4 = (Value.pointer (some (Addr.mk b3 0 none))) ∧ ρ 5 = (Value.pointer (some (Addr.mk b26 0 none))) ∧ True) ⟨e2, e3, e4, e5, trivial⟩ ?_
  rintro ρ ⟨e2, e3, e4, e5, -⟩
  refine wpC_region ?_
  refine wpR_val (v := (Value.pointer (some ((Addr.mk b1 0 none).add 12)))) (w' := w47) rfl rfl rfl (x_fieldAddr rfl e2 FA_24_12) ?_
  obtain ⟨x155, q155, h⟩ := h
  refine wpR_val (v := (Sl.v x155)) (w' := w47) rfl rfl rfl (x_load1 rfl rfl SH_22 q155) ?_
  refine wpR_enter rfl rfl rfl (x_call (vs := [(Sl.v x155)]) rfl rfl (mapl_cons rfl mapl_nil) Try.func35 NN_35 NB_35) (Calls.mono h ?_)
  rintro _ w48 ⟨r156, rfl, h⟩
  refine ⟨_, rfl, ?_⟩
  refine wpR_val (v := (Value.pointer (some ((Addr.mk b26 0 none).add 12)))) (w' := w48) rfl rfl rfl (x_fieldAddr rfl e5 FA_24_12) ?_
  obtain ⟨q157, h⟩ := h
  obtain ⟨w49, hw157⟩ : ∃ u, u = setAll w48 ((Addr.mk b26 0 none).add 12) [(Sl.v r156)] 0 := ⟨_, rfl⟩
  replace h := h w49 hw157
  refine wpR_skp (w' := w49) rfl rfl ((x_store (v := (Sl.v r156)) rfl rfl rfl SZ_22 (ones (by rfl)) q157).trans (by rw [hw157]; rfl)) ?_
  refine wpR_nil ?_
  refine wpC_seq ?_
  refine wpC_seq ?_
  refine wpC_cut (fun ρ => ρ 2 = (Value.pointer (some (Addr.mk b1 0 none))) ∧ ρ 3 = (Value.pointer (some (Addr.mk b2 0 none))) ∧ ρ 4 = (Value.pointer (some (Addr.mk b3 0 none))) ∧ ρ 5 = (Value.pointer (some (Addr.mk b26 0 none))) ∧ True) ⟨e2, e3, e4, e5, trivial⟩ ?_
  rintro ρ ⟨e2, e3, e4, e5, -⟩
  refine wpC_region ?_
  refine wpR_val (v := (Value.pointer (some ((Addr.mk b2 0 none).add 12)))) (w' := w49) rfl rfl rfl (x_fieldAddr rfl e3 FA_24_12) ?_
  obtain ⟨x158, q158, h⟩ := h
  refine wpR_val (v := (Sl.v x158)) (w' := w49) rfl rfl rfl (x_load1 rfl rfl SH_22 q158) ?_
  refine wpR_val (v := (Value.int .i64 (x158.len : Int))) (w' := w49) rfl rfl rfl (x_lenS (s := x158) rfl rfl isSliceT_22) ?_
  refine wpR_val (v := (Value.int .i64 0)) (w' := w49) rfl rfl rfl (x_move (v := (Value.int .i64 0)) rfl rfl) ?_
  refine wpR_nil ?_
  refine wpC_block ?_
  obtain ⟨I159, μ159, hI159, hr159⟩ := h
  refine wpC_loop (fun (x : Int) ρ => ρ 89 = (Value.int .i64 x) ∧ ρ 2 = (Value.pointer (some (Addr.mk b1 0 none))) ∧ ρ 4 = (Value.pointer (some (Addr.mk b3 0 none))) ∧ ρ 5 = (Value.pointer (some (Addr.mk b26 0 none))) ∧ ρ 87 = (Sl.v x158) ∧ ρ 88 = (Value.int .i64 (x158.len : Int)) ∧ True) I159 μ159 0 ⟨rfl, e2, e4, e5, rfl, rfl, trivial⟩ hI159 ?_
  rintro l159 ρ w50 ⟨e89, e2, e4, e5, e87, e88, -⟩ h
  replace h := hr159 l159 w50 h
  clear hr159 hI159
  refine wpC_seq ?_
  refine wpC_region ?_
  refine wpR_val (v := (Value.bool (decide (l159 < (x158.len : Int))))) (w' := w50) rfl rfl rfl (x_lss rfl e89 e88) ?_
  refine wpR_nil ?_
  refine wpC_seq ?_
  refine wpC_cond (b := decide (l159 < (x158.len : Int))) rfl (fun hc160 => ?_) (fun hc160 => ?_)
  · replace h := h.1 hc160
    refine wpC_skip ?_
    obtain ⟨J161, h, hk⟩ := h
    refine wpC_seqJ (fun (x : Unit) ρ => ρ 2 = (Value.pointer (some (Addr.mk b1 0 none))) ∧ ρ 4 = (Value.pointer (some (Addr.mk b3 0 none))) ∧ ρ 5 = (Value.pointer (some (Addr.mk b26 0 none))) ∧ ρ 87 = (Sl.v x158) ∧ ρ 88 = (Value.int .i64 (x158.len : Int)) ∧ ρ 89 = (Value.int .i64 l159) ∧ True) J161 ?_ ?_
    · clear hk
      refine wpC_block ?_
      refine wpC_seq ?_
      refine wpC_cut (fun ρ => ρ 2 = (Value.pointer (some (Addr.mk b1 0 none))) ∧ ρ 4 = (Value.pointer (some (Addr.mk b3 0 none))) ∧ ρ 5 = (Value.pointer (some (Addr.mk b26 0 none))) ∧ ρ 87 = (Sl.v x158) ∧ ρ 88 = (Value.int .i64 (x158.len : Int)) ∧ ρ 89 = (Value.int .i64 l159) ∧ True) ⟨e2, e4, e5, e87, e88, e89, trivial⟩ ?_
      rintro ρ ⟨e2, e4, e5, e87, e88, e89, -⟩
      refine wpC_region ?_
      obtain ⟨q163, z163, r163, h⟩ := h
      generalize hp163 : z163.add ((l159 : Int).toNat * 1) = p163 at h
      refine wpR_val (v := (Value.pointer (some p163))) (w' := w50) rfl rfl rfl ((x_indexAddr (s := x158) rfl e87 e89 ES_22 q163 r163).trans (by rw [hp163])) ?_
      obtain ⟨x164, q164, h⟩ := h
      refine wpR_val (v := (Value.string x164)) (w' := w50) rfl rfl rfl (x_load1 rfl rfl SH_9 q164) ?_
      refine wpR_val (v := (Value.string x164)) (w' := w50) rfl rfl rfl (x_assign (v := (Value.string x164)) rfl rfl) ?_
      refine wpR_nil ?_
      refine wpC_seq ?_
      refine wpC_cut (fun ρ => ρ 2 = (Value.pointer (some (Addr.mk b1 0 none))) ∧ ρ 4 = (Value.pointer (some (Addr.mk b3 0 none))) ∧ ρ 5 = (Value.pointer (some (Addr.mk b26 0 none))) ∧ ρ 7 = (Value.string x164) ∧ ρ 87 = (Sl.v x158) ∧ ρ 88 = (Value.int .i64 (x158.len : Int)) ∧ ρ 89 = (Value.int .i64 l159) ∧ True) ⟨e2, e4, e5, rfl, e87, e88, e89, trivial⟩ ?_
      rintro ρ ⟨e2, e4, e5, e7, e87, e88, e89, -⟩
      refine wpC_region ?_
      refine wpR_val (v := (Value.pointer (some ((Addr.mk b1 0 none).add 12)))) (w' := w50) rfl rfl rfl (x_fieldAddr rfl e2 FA_24_12) ?_
      obtain ⟨x165, q165, h⟩ := h
      refine wpR_val (v := (Sl.v x165)) (w' := w50) rfl rfl rfl (x_load1 rfl rfl SH_22 q165) ?_
      refine wpR_val (v := (Value.string x164)) (w' := w50) rfl rfl rfl (x_move (v := (Value.string x164)) rfl e7) ?_
      refine wpR_enter rfl rfl rfl (x_call (vs := [(Sl.v x165), (Value.string x164)]) rfl rfl (mapl_cons rfl (mapl_cons rfl mapl_nil)) Try.func27 NN_27 NB_27) (Calls.mono h ?_)
      rintro _ w52 ⟨r166, rfl, h⟩
      refine ⟨_, rfl, ?_⟩
      refine wpR_val (v := (Value.bool (!r166))) (w' := w52) rfl rfl rfl (x_not rfl rfl) ?_
      refine wpR_nil ?_
      refine wpC_cond (b := !r166) rfl (fun hc167 => ?_) (fun hc167 => ?_)
      · replace h := h.1 hc167
        refine wpC_cut (fun ρ => ρ 2 = (Value.pointer (some (Addr.mk b1 0 none))) ∧ ρ 4 = (Value.pointer (some (Addr.mk b3 0 none))) ∧ ρ 5 = (Value.pointer (some (Addr.mk b26 0 none))) ∧ ρ 7 = (Value.string x164) ∧ ρ 87 = (Sl.v x158) ∧ ρ 88 = (Value.int .i64 (x158.len : Int)) ∧ ρ 89 = (Value.int .i64 l159) ∧ True) ⟨e2, e4, e5, e7, e87, e88, e89, trivial⟩ ?_
        rintro ρ ⟨e2, e4, e5, e7, e87, e88, e89, -⟩
        refine wpC_region ?_
        refine wpR_val (v := (Value.pointer (some ((Addr.mk b26 0 none).add 12)))) (w' := w52) rfl rfl rfl (x_fieldAddr rfl e5 FA_24_12) ?_
        obtain ⟨x168, q168, h⟩ := h
        refine wpR_val (v := (Sl.v x168)) (w' := w52) rfl rfl rfl (x_load1 rfl rfl SH_22 q168) ?_
        refine wpR_val (v := (Value.string x164)) (w' := w52) rfl rfl rfl (x_move (v := (Value.string x164)) rfl e7) ?_
        obtain ⟨b169, hb169⟩ : ∃ u, u = w52.heap.size := ⟨_, rfl⟩
        obtain ⟨w53, hw169⟩ : ∃ u, u = w52.alloc (.cells #[(Value.string x164)] 9) := ⟨_, rfl⟩
        replace h := h b169 w53 hb169 hw169
        refine wpR_val (v := (Sl.v (⟨some ⟨b169, 0, none⟩, 1, 1⟩ : Sl))) (w' := w53) rfl rfl rfl ((x_buildSlice (qs := [(0, (Value.string x164))]) rfl (by rfl) (BS_22_1_0 x164)).trans (by rw [← hb169, ← hw169])) ?_
        obtain ⟨r170, w54, q170, h⟩ := h
        refine wpR_val (v := (Sl.v r170)) (w' := w54) rfl rfl rfl (x_append (s := x168) (u := (⟨some ⟨b169, 0, none⟩, 1, 1⟩ : Sl)) rfl rfl rfl rfl q170) ?_
        refine wpR_val (v := (Value.pointer (some ((Addr.mk b26 0 none).add 12)))) (w' := w54) rfl rfl rfl (x_fieldAddr rfl e5 FA_24_12) ?_
        obtain ⟨q171, h⟩ := h
        obtain ⟨w55, hw171⟩ : ∃ u, u = setAll w54 ((Addr.mk b26 0 none).add 12) [(Sl.v r170)] 0 := ⟨_, rfl⟩
        replace h := h w55 hw171
        refine wpR_skp (w' := w55) rfl rfl ((x_store (v := (Sl.v r170)) rfl rfl rfl SZ_22 (ones (by rfl)) q171).trans (by rw [hw171]; rfl)) ?_
        refine wpR_nil ?_
        exact ⟨(), ⟨e2, e4, e5, e87, e88, e89, trivial⟩, h⟩
      · replace h := h.2 hc167
        refine wpC_skip ?_
        exact ⟨(), ⟨e2, e4, e5, e87, e88, e89, trivial⟩, h⟩
    clear h
    rintro l162 ρ w51 ⟨e2, e4, e5, e87, e88, e89, -⟩ h
    replace h := hk l162 w51 h
    clear hk
    refine wpC_region ?_
    refine wpR_val (v := (Value.int .i64 (IntKind.i64.wrap (l159 + 1)))) (w' := w51) rfl rfl rfl (x_add rfl e89 rfl) ?_
    refine wpR_val (v := (Value.int .i64 (IntKind.i64.wrap (l159 + 1)))) (w' := w51) rfl rfl rfl (x_move (v := (Value.int .i64 (IntKind.i64.wrap (l159 + 1)))) rfl rfl) ?_
    refine wpR_nil ?_
    exact ⟨IntKind.i64.wrap (l159 + 1), ⟨rfl, e2, e4, e5, e87, e88, trivial⟩, h⟩
  · replace h := h.2 hc160
    refine wpC_exit ?_
    refine wpC_seq ?_
    refine wpC_cut (fun ρ => ρ 4 = (Value.pointer (some (Addr.mk b3 0 none))) ∧ ρ 5 = (Value.pointer (some (Addr.mk b26 0 none))) ∧ True) ⟨e4, e5, trivial⟩ ?_
    rintro ρ ⟨e4, e5, -⟩
    refine wpC_region ?_
    obtain ⟨x172, q172, x173, q173, x174, q174, x175, q175, x176, q176, x177, q177, x178, q178, x179, q179, x180, q180, x181, q181, x182, q182, x183, q183, x184, q184, x185, q185, x186, q186, x187, q187, x188, q188, x189, q189, x190, q190, x191, q191, x192, q192, x193, q193, h⟩ := h
    refine wpR_val (v := (V23 x172 x173 x174 x175 x176 x177 x178 x179 x180 x181 x182 x183 x184 x185 x186 x187 x188 x189 x190 x191 x192 x193)) (w' := w50) rfl rfl rfl (x_loadN (S23 x172 x173 x174 x175 x176 x177 x178 x179 x180 x181 x182 x183 x184 x185 x186 x187 x188 x189 x190 x191 x192 x193) rfl e5 SH_24 (K23 ⟨q172, q173, q174, q175, q176, q177, q178, q179, q180, q181, q182, q183, q184, q185, q186, q187, q188, q189, q190, q191, q192, q193⟩)) ?_
    obtain ⟨q194, h⟩ := h
    obtain ⟨w56, hw194⟩ : ∃ u, u = setAll w50 (Addr.mk b3 0 none) (S23 x172 x173 x174 x175 x176 x177 x178 x179 x180 x181 x182 x183 x184 x185 x186 x187 x188 x189 x190 x191 x192 x193) 0 := ⟨_, rfl⟩
    replace h := h w56 hw194
    refine wpR_skp (w' := w56) rfl rfl ((x_store (v := (V23 x172 x173 x174 x175 x176 x177 x178 x179 x180 x181 x182 x183 x184 x185 x186 x187 x188 x189 x190 x191 x192 x193)) rfl e4 rfl SZ_24 (ones (by rfl)) q194).trans (by rw [hw194]; rfl)) ?_
    refine wpR_nil ?_
    refine wpC_ret ?_
    obtain ⟨x195, q195, x196, q196, x197, q197, x198, q198, x199, q199, x200, q200, x201, q201, x202, q202, x203, q203, x204, q204, x205, q205, x206, q206, x207, q207, x208, q208, x209, q209, x210, q210, x211, q211, x212, q212, x213, q213, x214, q214, x215, q215, x216, q216, h⟩ := h
    exact ⟨.inl rfl, fun a ha => ⟨_, results_repC (S23 x195 x196 x197 x198 x199 x200 x201 x202 x203 x204 x205 x206 x207 x208 x209 x210 x211 x212 x213 x214 x215 x216) rfl ha e4 SH_24 (K23 ⟨q195, q196, q197, q198, q199, q200, q201, q202, q203, q204, q205, q206, q207, q208, q209, q210, q211, q212, q213, q214, q215, q216⟩), (x195, x196, x197, x198, x199, x200, x201, x202, x203, x204, x205, x206, x207, x208, x209, x210, x211, x212, x213, x214, x215, x216), rfl, h⟩⟩


end Go.Proofs.Ytadlnbdelkbboaa
