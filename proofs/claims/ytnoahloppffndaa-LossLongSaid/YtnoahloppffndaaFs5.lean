import Derived.Test.YtnoahloppffndaaRows
import Derived.Test.YtnoahloppffndaaFs1
import Derived.Test.YtnoahloppffndaaDecRaw
namespace Go.Proofs.Ytnoahloppffndaa
open Go.Dec
set_option maxHeartbeats 400000
set_option maxRecDepth 100000

/-- profile.Meet -/
def F21 (p0_0 : ByteArray) (p0_1 : Int) (p0_2 : Int) (p0_3 : Int) (p0_4 : Bool) (p0_5 : Int) (p0_6 : Bool) (p0_7 : Bool) (p0_8 : Int) (p0_9 : Int) (p0_10 : Int) (p0_11 : Int) (p0_12 : Sl) (p0_13 : Int) (p0_14 : Int) (p0_15 : Int) (p0_16 : Int) (p0_17 : Bool) (p0_18 : Int) (p0_19 : Int) (p0_20 : Int) (p0_21 : Int) (p1_0 : ByteArray) (p1_1 : Int) (p1_2 : Int) (p1_3 : Int) (p1_4 : Bool) (p1_5 : Int) (p1_6 : Bool) (p1_7 : Bool) (p1_8 : Int) (p1_9 : Int) (p1_10 : Int) (p1_11 : Int) (p1_12 : Sl) (p1_13 : Int) (p1_14 : Int) (p1_15 : Int) (p1_16 : Int) (p1_17 : Bool) (p1_18 : Int) (p1_19 : Int) (p1_20 : Int) (p1_21 : Int) (w0 : World) (K : T23 → World → Prop) : Prop :=
  nw 24 (A23 p0_0 p0_1 p0_2 p0_3 p0_4 p0_5 p0_6 p0_7 p0_8 p0_9 p0_10 p0_11 p0_12 p0_13 p0_14 p0_15 p0_16 p0_17 p0_18 p0_19 p0_20 p0_21) w0 fun b9 w1 =>
  nw 24 (A23 p1_0 p1_1 p1_2 p1_3 p1_4 p1_5 p1_6 p1_7 p1_8 p1_9 p1_10 p1_11 p1_12 p1_13 p1_14 p1_15 p1_16 p1_17 p1_18 p1_19 p1_20 p1_21) w1 fun b10 w2 =>
  nw 24 (A23 (ByteArray.mk #[]) 0 0 0 false 0 false false 0 0 0 0 Sl.nil 0 0 0 0 false 0 0 0 0) w2 fun b11 w3 =>
  L23 (Addr.mk b9 0 none) w3 fun x12 x13 x14 x15 x16 x17 x18 x19 x20 x21 x22 x23 x24 x25 x26 x27 x28 x29 x30 x31 x32 x33 =>
  nw 24 (A23 (ByteArray.mk #[]) 0 0 0 false 0 false false 0 0 0 0 Sl.nil 0 0 0 0 false 0 0 0 0) w3 fun b34 w4 =>
  st (Addr.mk b34 0 none) (S23 x12 x13 x14 x15 x16 x17 x18 x19 x20 x21 x22 x23 x24 x25 x26 x27 x28 x29 x30 x31 x32 x33) w4 fun w5 =>
  jn (fun (J37 : Unit → World → Prop) => tk w5 fun w6 =>
    ld (Value.int .i64) ((Addr.mk b9 0 none).add 1) w6 fun x38 =>
    ld (Value.int .i64) ((Addr.mk b10 0 none).add 1) w6 fun x39 =>
    ld (Value.int .i64) ((Addr.mk b9 0 none).add 3) w6 fun x40 =>
    ld (Value.int .i64) ((Addr.mk b10 0 none).add 3) w6 fun x41 =>
    ld (Value.int .i64) ((Addr.mk b9 0 none).add 5) w6 fun x42 =>
    ld (Value.int .i64) ((Addr.mk b10 0 none).add 5) w6 fun x43 =>
    st ((Addr.mk b34 0 none).add 1) [(Value.int .i64 (min x38 x39))] w6 fun w7 =>
    (w7.cell? ((Addr.mk b10 0 none).add 5) = some (Value.int .i64 x43)) ∧
    (w7.cell? ((Addr.mk b9 0 none).add 5) = some (Value.int .i64 x42)) ∧
    (w7.cell? ((Addr.mk b10 0 none).add 3) = some (Value.int .i64 x41)) ∧
    (w7.cell? ((Addr.mk b9 0 none).add 3) = some (Value.int .i64 x40)) ∧
    st ((Addr.mk b34 0 none).add 3) [(Value.int .i64 (min x40 x41))] w7 fun w8 =>
    (w8.cell? ((Addr.mk b10 0 none).add 5) = some (Value.int .i64 x43)) ∧
    (w8.cell? ((Addr.mk b9 0 none).add 5) = some (Value.int .i64 x42)) ∧
    st ((Addr.mk b34 0 none).add 5) [(Value.int .i64 (min x42 x43))] w8 fun w9 =>
    J37 () w9
  )
  fun _l47 w10 =>
  jn (fun (J49 : Unit → World → Prop) => tk w10 fun w11 =>
    ld Value.bool ((Addr.mk b9 0 none).add 4) w11 fun x50 =>
    cnd (x50)
      (
      ld Value.bool ((Addr.mk b10 0 none).add 4) w11 fun x52 =>
      ld Value.bool ((Addr.mk b9 0 none).add 6) w11 fun x53 =>
      cnd (x53)
        (
        ld Value.bool ((Addr.mk b10 0 none).add 6) w11 fun x55 =>
        ld Value.bool ((Addr.mk b9 0 none).add 7) w11 fun x56 =>
        cnd (x56)
          (
          ld Value.bool ((Addr.mk b10 0 none).add 7) w11 fun x58 =>
          st ((Addr.mk b34 0 none).add 4) [(Value.bool x52)] w11 fun w12 =>
          (w12.cell? ((Addr.mk b10 0 none).add 7) = some (Value.bool x58)) ∧
          (w12.cell? ((Addr.mk b9 0 none).add 7) = some (Value.bool x56)) ∧
          (w12.cell? ((Addr.mk b10 0 none).add 6) = some (Value.bool x55)) ∧
          (w12.cell? ((Addr.mk b9 0 none).add 6) = some (Value.bool x53)) ∧
          st ((Addr.mk b34 0 none).add 6) [(Value.bool x55)] w12 fun w13 =>
          (w13.cell? ((Addr.mk b10 0 none).add 7) = some (Value.bool x58)) ∧
          (w13.cell? ((Addr.mk b9 0 none).add 7) = some (Value.bool x56)) ∧
          st ((Addr.mk b34 0 none).add 7) [(Value.bool x58)] w13 fun w14 =>
          J49 () w14
          )
          (
          st ((Addr.mk b34 0 none).add 4) [(Value.bool x52)] w11 fun w15 =>
          (w15.cell? ((Addr.mk b9 0 none).add 7) = some (Value.bool x56)) ∧
          (w15.cell? ((Addr.mk b10 0 none).add 6) = some (Value.bool x55)) ∧
          (w15.cell? ((Addr.mk b9 0 none).add 6) = some (Value.bool x53)) ∧
          st ((Addr.mk b34 0 none).add 6) [(Value.bool x55)] w15 fun w16 =>
          (w16.cell? ((Addr.mk b9 0 none).add 7) = some (Value.bool x56)) ∧
          st ((Addr.mk b34 0 none).add 7) [(Value.bool false)] w16 fun w17 =>
          J49 () w17
          )
        )
        (
        ld Value.bool ((Addr.mk b9 0 none).add 7) w11 fun x65 =>
        cnd (x65)
          (
          ld Value.bool ((Addr.mk b10 0 none).add 7) w11 fun x67 =>
          st ((Addr.mk b34 0 none).add 4) [(Value.bool x52)] w11 fun w18 =>
          (w18.cell? ((Addr.mk b10 0 none).add 7) = some (Value.bool x67)) ∧
          (w18.cell? ((Addr.mk b9 0 none).add 7) = some (Value.bool x65)) ∧
          (w18.cell? ((Addr.mk b9 0 none).add 6) = some (Value.bool x53)) ∧
          st ((Addr.mk b34 0 none).add 6) [(Value.bool false)] w18 fun w19 =>
          (w19.cell? ((Addr.mk b10 0 none).add 7) = some (Value.bool x67)) ∧
          (w19.cell? ((Addr.mk b9 0 none).add 7) = some (Value.bool x65)) ∧
          st ((Addr.mk b34 0 none).add 7) [(Value.bool x67)] w19 fun w20 =>
          J49 () w20
          )
          (
          st ((Addr.mk b34 0 none).add 4) [(Value.bool x52)] w11 fun w21 =>
          (w21.cell? ((Addr.mk b9 0 none).add 7) = some (Value.bool x65)) ∧
          (w21.cell? ((Addr.mk b9 0 none).add 6) = some (Value.bool x53)) ∧
          st ((Addr.mk b34 0 none).add 6) [(Value.bool false)] w21 fun w22 =>
          (w22.cell? ((Addr.mk b9 0 none).add 7) = some (Value.bool x65)) ∧
          st ((Addr.mk b34 0 none).add 7) [(Value.bool false)] w22 fun w23 =>
          J49 () w23
          )
        )
      )
      (
      ld Value.bool ((Addr.mk b9 0 none).add 6) w11 fun x74 =>
      cnd (x74)
        (
        ld Value.bool ((Addr.mk b10 0 none).add 6) w11 fun x76 =>
        ld Value.bool ((Addr.mk b9 0 none).add 7) w11 fun x77 =>
        cnd (x77)
          (
          ld Value.bool ((Addr.mk b10 0 none).add 7) w11 fun x79 =>
          st ((Addr.mk b34 0 none).add 4) [(Value.bool false)] w11 fun w24 =>
          (w24.cell? ((Addr.mk b10 0 none).add 7) = some (Value.bool x79)) ∧
          (w24.cell? ((Addr.mk b9 0 none).add 7) = some (Value.bool x77)) ∧
          (w24.cell? ((Addr.mk b10 0 none).add 6) = some (Value.bool x76)) ∧
          (w24.cell? ((Addr.mk b9 0 none).add 6) = some (Value.bool x74)) ∧
          st ((Addr.mk b34 0 none).add 6) [(Value.bool x76)] w24 fun w25 =>
          (w25.cell? ((Addr.mk b10 0 none).add 7) = some (Value.bool x79)) ∧
          (w25.cell? ((Addr.mk b9 0 none).add 7) = some (Value.bool x77)) ∧
          st ((Addr.mk b34 0 none).add 7) [(Value.bool x79)] w25 fun w26 =>
          J49 () w26
          )
          (
          st ((Addr.mk b34 0 none).add 4) [(Value.bool false)] w11 fun w27 =>
          (w27.cell? ((Addr.mk b9 0 none).add 7) = some (Value.bool x77)) ∧
          (w27.cell? ((Addr.mk b10 0 none).add 6) = some (Value.bool x76)) ∧
          (w27.cell? ((Addr.mk b9 0 none).add 6) = some (Value.bool x74)) ∧
          st ((Addr.mk b34 0 none).add 6) [(Value.bool x76)] w27 fun w28 =>
          (w28.cell? ((Addr.mk b9 0 none).add 7) = some (Value.bool x77)) ∧
          st ((Addr.mk b34 0 none).add 7) [(Value.bool false)] w28 fun w29 =>
          J49 () w29
          )
        )
        (
        ld Value.bool ((Addr.mk b9 0 none).add 7) w11 fun x86 =>
        cnd (x86)
          (
          ld Value.bool ((Addr.mk b10 0 none).add 7) w11 fun x88 =>
          st ((Addr.mk b34 0 none).add 4) [(Value.bool false)] w11 fun w30 =>
          (w30.cell? ((Addr.mk b10 0 none).add 7) = some (Value.bool x88)) ∧
          (w30.cell? ((Addr.mk b9 0 none).add 7) = some (Value.bool x86)) ∧
          (w30.cell? ((Addr.mk b9 0 none).add 6) = some (Value.bool x74)) ∧
          st ((Addr.mk b34 0 none).add 6) [(Value.bool false)] w30 fun w31 =>
          (w31.cell? ((Addr.mk b10 0 none).add 7) = some (Value.bool x88)) ∧
          (w31.cell? ((Addr.mk b9 0 none).add 7) = some (Value.bool x86)) ∧
          st ((Addr.mk b34 0 none).add 7) [(Value.bool x88)] w31 fun w32 =>
          J49 () w32
          )
          (
          st ((Addr.mk b34 0 none).add 4) [(Value.bool false)] w11 fun w33 =>
          (w33.cell? ((Addr.mk b9 0 none).add 7) = some (Value.bool x86)) ∧
          (w33.cell? ((Addr.mk b9 0 none).add 6) = some (Value.bool x74)) ∧
          st ((Addr.mk b34 0 none).add 6) [(Value.bool false)] w33 fun w34 =>
          (w34.cell? ((Addr.mk b9 0 none).add 7) = some (Value.bool x86)) ∧
          st ((Addr.mk b34 0 none).add 7) [(Value.bool false)] w34 fun w35 =>
          J49 () w35
          )
        )
      )
  )
  fun _l95 w36 =>
  jn (fun (J97 : Unit → World → Prop) => tk w36 fun w37 =>
    ld (Value.int .i64) ((Addr.mk b9 0 none).add 8) w37 fun x98 =>
    ld (Value.int .i64) ((Addr.mk b10 0 none).add 8) w37 fun x99 =>
    ld (Value.int .i64) ((Addr.mk b9 0 none).add 9) w37 fun x100 =>
    ld (Value.int .i64) ((Addr.mk b10 0 none).add 9) w37 fun x101 =>
    ld (Value.int .i64) ((Addr.mk b9 0 none).add 16) w37 fun x102 =>
    ld (Value.int .i64) ((Addr.mk b10 0 none).add 16) w37 fun x103 =>
    st ((Addr.mk b34 0 none).add 8) [(Value.int .i64 (min x98 x99))] w37 fun w38 =>
    (w38.cell? ((Addr.mk b10 0 none).add 16) = some (Value.int .i64 x103)) ∧
    (w38.cell? ((Addr.mk b9 0 none).add 16) = some (Value.int .i64 x102)) ∧
    (w38.cell? ((Addr.mk b10 0 none).add 9) = some (Value.int .i64 x101)) ∧
    (w38.cell? ((Addr.mk b9 0 none).add 9) = some (Value.int .i64 x100)) ∧
    st ((Addr.mk b34 0 none).add 9) [(Value.int .i64 (min x100 x101))] w38 fun w39 =>
    (w39.cell? ((Addr.mk b10 0 none).add 16) = some (Value.int .i64 x103)) ∧
    (w39.cell? ((Addr.mk b9 0 none).add 16) = some (Value.int .i64 x102)) ∧
    st ((Addr.mk b34 0 none).add 16) [(Value.int .i64 (min x102 x103))] w39 fun w40 =>
    J97 () w40
  )
  fun _l107 w41 =>
  jn (fun (J109 : Unit → World → Prop) => tk w41 fun w42 =>
    ld (Value.int .i64) ((Addr.mk b9 0 none).add 10) w42 fun x110 =>
    ld (Value.int .i64) ((Addr.mk b10 0 none).add 10) w42 fun x111 =>
    ld (Value.int .i64) ((Addr.mk b9 0 none).add 11) w42 fun x112 =>
    ld (Value.int .i64) ((Addr.mk b10 0 none).add 11) w42 fun x113 =>
    st ((Addr.mk b34 0 none).add 10) [(Value.int .i64 (min x110 x111))] w42 fun w43 =>
    (w43.cell? ((Addr.mk b10 0 none).add 11) = some (Value.int .i64 x113)) ∧
    (w43.cell? ((Addr.mk b9 0 none).add 11) = some (Value.int .i64 x112)) ∧
    st ((Addr.mk b34 0 none).add 11) [(Value.int .i64 (min x112 x113))] w43 fun w44 =>
    J109 () w44
  )
  fun _l116 w45 =>
  st ((Addr.mk b34 0 none).add 12) [(Sl.v Sl.nil)] w45 fun w46 =>
  ld Sl.v ((Addr.mk b9 0 none).add 12) w46 fun x118 =>
  lp (fun (next119 : Int → World → Prop) l119 w47 =>
    cnd (decide (l119 < (x118.len : Int)))
      (
      jn (fun (J121 : Unit → World → Prop) =>
        ix x118 l119 1 fun p123 =>
        ld Value.string p123 w47 fun x124 =>
        ld Sl.v ((Addr.mk b10 0 none).add 12) w47 fun x125 =>
        callC Try.prog 42 #[(Sl.v x125), (Value.string x124)] (fun (r : Bool) => (Value.bool r)) w47 fun r126 w49 =>
        cnd (r126)
          (
          ld Sl.v ((Addr.mk b34 0 none).add 12) w49 fun x128 =>
          nw 9 #[(Value.string x124)] w49 fun b129 w50 =>
          rn Try.prog (Builtin.append_ #[22, 22] 22 #[Sl.v x128, Sl.v (⟨some ⟨b129, 0, none⟩, 1, 1⟩ : Sl)]) Sl.v w50 fun r130 w51 =>
          st ((Addr.mk b34 0 none).add 12) [(Sl.v r130)] w51 fun w52 =>
          J121 () w52
          )
          (
          J121 () w49
          )
      )
      fun _l122 w48 =>
      next119 (IntKind.i64.wrap (l119 + 1)) w48
      )
      (
      jn (fun (J132 : Unit → World → Prop) =>
        ld (Value.int .i64) ((Addr.mk b34 0 none).add 10) w47 fun x134 =>
        jp (fun J135 => cnd (decide (x134 = 0))
          (
          J135 true
          )
          (
          ld (Value.int .i64) ((Addr.mk b34 0 none).add 11) w47 fun x137 =>
          J135 (decide (x137 = 0))
          ))
        fun c138 =>
        jp (fun J139 => cnd (c138)
          (
          J139 true
          )
          (
          ld Sl.v ((Addr.mk b34 0 none).add 12) w47 fun x141 =>
          J139 (decide ((x141.len : Int) = 0))
          ))
        fun c142 =>
        cnd (c142)
          (
          st ((Addr.mk b34 0 none).add 10) [(Value.int .i64 0)] w47 fun w54 =>
          st ((Addr.mk b34 0 none).add 11) [(Value.int .i64 0)] w54 fun w55 =>
          st ((Addr.mk b34 0 none).add 12) [(Sl.v Sl.nil)] w55 fun w56 =>
          J132 () w56
          )
          (
          J132 () w47
          )
      )
      fun _l133 w53 =>
      jn (fun (J147 : Unit → World → Prop) =>
        ld (Value.int .i64) ((Addr.mk b34 0 none).add 1) w53 fun x149 =>
        cnd (decide (x149 = 0))
          (
          st ((Addr.mk b34 0 none).add 2) [(Value.int .i64 0)] w53 fun w58 =>
          J147 () w58
          )
          (
          ld (Value.int .i64) ((Addr.mk b9 0 none).add 2) w53 fun x152 =>
          cnd (decide (x152 = 0))
            (
            ld (Value.int .i64) ((Addr.mk b10 0 none).add 2) w53 fun x154 =>
            st ((Addr.mk b34 0 none).add 2) [(Value.int .i64 x154)] w53 fun w59 =>
            J147 () w59
            )
            (
            ld (Value.int .i64) ((Addr.mk b10 0 none).add 2) w53 fun x156 =>
            cnd (decide (x156 = 0))
              (
              ld (Value.int .i64) ((Addr.mk b9 0 none).add 2) w53 fun x158 =>
              st ((Addr.mk b34 0 none).add 2) [(Value.int .i64 x158)] w53 fun w60 =>
              J147 () w60
              )
              (
              ld (Value.int .i64) ((Addr.mk b9 0 none).add 2) w53 fun x160 =>
              ld (Value.int .i64) ((Addr.mk b10 0 none).add 2) w53 fun x161 =>
              st ((Addr.mk b34 0 none).add 2) [(Value.int .i64 (min x160 x161))] w53 fun w61 =>
              J147 () w61
              )
            )
          )
      )
      fun _l148 w57 =>
      L23 (Addr.mk b34 0 none) w57 fun x163 x164 x165 x166 x167 x168 x169 x170 x171 x172 x173 x174 x175 x176 x177 x178 x179 x180 x181 x182 x183 x184 =>
      st (Addr.mk b11 0 none) (S23 x163 x164 x165 x166 x167 x168 x169 x170 x171 x172 x173 x174 x175 x176 x177 x178 x179 x180 x181 x182 x183 x184) w57 fun w62 =>
      L23 (Addr.mk b11 0 none) w62 fun x186 x187 x188 x189 x190 x191 x192 x193 x194 x195 x196 x197 x198 x199 x200 x201 x202 x203 x204 x205 x206 x207 =>
      K (x186, x187, x188, x189, x190, x191, x192, x193, x194, x195, x196, x197, x198, x199, x200, x201, x202, x203, x204, x205, x206, x207) w62
      )
  ) 0 w46
set_option maxRecDepth 100000 in
theorem D21 (p0_0 : ByteArray) (p0_1 : Int) (p0_2 : Int) (p0_3 : Int) (p0_4 : Bool) (p0_5 : Int) (p0_6 : Bool) (p0_7 : Bool) (p0_8 : Int) (p0_9 : Int) (p0_10 : Int) (p0_11 : Int) (p0_12 : Sl) (p0_13 : Int) (p0_14 : Int) (p0_15 : Int) (p0_16 : Int) (p0_17 : Bool) (p0_18 : Int) (p0_19 : Int) (p0_20 : Int) (p0_21 : Int) (p1_0 : ByteArray) (p1_1 : Int) (p1_2 : Int) (p1_3 : Int) (p1_4 : Bool) (p1_5 : Int) (p1_6 : Bool) (p1_7 : Bool) (p1_8 : Int) (p1_9 : Int) (p1_10 : Int) (p1_11 : Int) (p1_12 : Sl) (p1_13 : Int) (p1_14 : Int) (p1_15 : Int) (p1_16 : Int) (p1_17 : Bool) (p1_18 : Int) (p1_19 : Int) (p1_20 : Int) (p1_21 : Int) (w0 : World) (K : T23 → World → Prop) (h : F21 p0_0 p0_1 p0_2 p0_3 p0_4 p0_5 p0_6 p0_7 p0_8 p0_9 p0_10 p0_11 p0_12 p0_13 p0_14 p0_15 p0_16 p0_17 p0_18 p0_19 p0_20 p0_21 p1_0 p1_1 p1_2 p1_3 p1_4 p1_5 p1_6 p1_7 p1_8 p1_9 p1_10 p1_11 p1_12 p1_13 p1_14 p1_15 p1_16 p1_17 p1_18 p1_19 p1_20 p1_21 w0 K) : callC Try.prog 21 #[(V23 p0_0 p0_1 p0_2 p0_3 p0_4 p0_5 p0_6 p0_7 p0_8 p0_9 p0_10 p0_11 p0_12 p0_13 p0_14 p0_15 p0_16 p0_17 p0_18 p0_19 p0_20 p0_21), (V23 p1_0 p1_1 p1_2 p1_3 p1_4 p1_5 p1_6 p1_7 p1_8 p1_9 p1_10 p1_11 p1_12 p1_13 p1_14 p1_15 p1_16 p1_17 p1_18 p1_19 p1_20 p1_21)] E23 w0 K := by
  unfold F21 at h
  refine calls_of_wpC Try.func21 rfl 140 rfl (by simp) ?_
  intro ρ hρ
  have e0 : ρ 0 = (V23 p0_0 p0_1 p0_2 p0_3 p0_4 p0_5 p0_6 p0_7 p0_8 p0_9 p0_10 p0_11 p0_12 p0_13 p0_14 p0_15 p0_16 p0_17 p0_18 p0_19 p0_20 p0_21) := hρ 0
  have e1 : ρ 1 = (V23 p1_0 p1_1 p1_2 p1_3 p1_4 p1_5 p1_6 p1_7 p1_8 p1_9 p1_10 p1_11 p1_12 p1_13 p1_14 p1_15 p1_16 p1_17 p1_18 p1_19 p1_20 p1_21) := hρ 1
  clear hρ
  refine wpC_seq ?_
  refine wpC_region ?_
  obtain ⟨b9, hb9⟩ : ∃ u, u = w0.heap.size := ⟨_, rfl⟩
  obtain ⟨w1, hw9⟩ : ∃ u, u = w0.alloc (.cells (A23 p0_0 p0_1 p0_2 p0_3 p0_4 p0_5 p0_6 p0_7 p0_8 p0_9 p0_10 p0_11 p0_12 p0_13 p0_14 p0_15 p0_16 p0_17 p0_18 p0_19 p0_20 p0_21) 24) := ⟨_, rfl⟩
  replace h := h b9 w1 hb9 hw9
  refine wpR_val (v := (Value.pointer (some (Addr.mk b9 0 none)))) (w' := w1) rfl rfl rfl ((x_box (v := (V23 p0_0 p0_1 p0_2 p0_3 p0_4 p0_5 p0_6 p0_7 p0_8 p0_9 p0_10 p0_11 p0_12 p0_13 p0_14 p0_15 p0_16 p0_17 p0_18 p0_19 p0_20 p0_21)) rfl e0).trans (by rw [hb9, hw9]; rfl)) ?_
  obtain ⟨b10, hb10⟩ : ∃ u, u = w1.heap.size := ⟨_, rfl⟩
  obtain ⟨w2, hw10⟩ : ∃ u, u = w1.alloc (.cells (A23 p1_0 p1_1 p1_2 p1_3 p1_4 p1_5 p1_6 p1_7 p1_8 p1_9 p1_10 p1_11 p1_12 p1_13 p1_14 p1_15 p1_16 p1_17 p1_18 p1_19 p1_20 p1_21) 24) := ⟨_, rfl⟩
  replace h := h b10 w2 hb10 hw10
  refine wpR_val (v := (Value.pointer (some (Addr.mk b10 0 none)))) (w' := w2) rfl rfl rfl ((x_box (v := (V23 p1_0 p1_1 p1_2 p1_3 p1_4 p1_5 p1_6 p1_7 p1_8 p1_9 p1_10 p1_11 p1_12 p1_13 p1_14 p1_15 p1_16 p1_17 p1_18 p1_19 p1_20 p1_21)) rfl e1).trans (by rw [hb10, hw10]; rfl)) ?_
  obtain ⟨b11, hb11⟩ : ∃ u, u = w2.heap.size := ⟨_, rfl⟩
  obtain ⟨w3, hw11⟩ : ∃ u, u = w2.alloc (.cells (A23 (ByteArray.mk #[]) 0 0 0 false 0 false false 0 0 0 0 Sl.nil 0 0 0 0 false 0 0 0 0) 24) := ⟨_, rfl⟩
  replace h := h b11 w3 hb11 hw11
  refine wpR_val (v := (Value.pointer (some (Addr.mk b11 0 none)))) (w' := w3) rfl rfl rfl ((x_alloc rfl ZV_24).trans (by rw [hb11, hw11]; rfl)) ?_
  refine wpR_nil ?_
  refine wpC_seq ?_
  refine wpC_cut (fun ρ => ρ 2 = (Value.pointer (some (Addr.mk b9 0 none))) ∧ ρ 3 = (Value.pointer (some (Addr.mk b10 0 none))) ∧ ρ 4 = (Value.pointer (some (Addr.mk b11 0 none))) ∧ True) ⟨rfl, rfl, rfl, trivial⟩ ?_
  rintro ρ ⟨e2, e3, e4, -⟩
  refine wpC_region ?_
  obtain ⟨x12, q12, x13, q13, x14, q14, x15, q15, x16, q16, x17, q17, x18, q18, x19, q19, x20, q20, x21, q21, x22, q22, x23, q23, x24, q24, x25, q25, x26, q26, x27, q27, x28, q28, x29, q29, x30, q30, x31, q31, x32, q32, x33, q33, h⟩ := h
  refine wpR_val (v := (V23 x12 x13 x14 x15 x16 x17 x18 x19 x20 x21 x22 x23 x24 x25 x26 x27 x28 x29 x30 x31 x32 x33)) (w' := w3) rfl rfl rfl (x_loadN (S23 x12 x13 x14 x15 x16 x17 x18 x19 x20 x21 x22 x23 x24 x25 x26 x27 x28 x29 x30 x31 x32 x33) rfl e2 SH_24 (K23 ⟨q12, q13, q14, q15, q16, q17, q18, q19, q20, q21, q22, q23, q24, q25, q26, q27, q28, q29, q30, q31, q32, q33⟩)) ?_
  obtain ⟨b34, hb34⟩ : ∃ u, u = w3.heap.size := ⟨_, rfl⟩
  obtain ⟨w4, hw34⟩ : ∃ u, u = w3.alloc (.cells (A23 (ByteArray.mk #[]) 0 0 0 false 0 false false 0 0 0 0 Sl.nil 0 0 0 0 false 0 0 0 0) 24) := ⟨_, rfl⟩
  replace h := h b34 w4 hb34 hw34
  refine wpR_val (v := (Value.pointer (some (Addr.mk b34 0 none)))) (w' := w4) rfl rfl rfl ((x_alloc rfl ZV_24).trans (by rw [hb34, hw34]; rfl)) ?_
  obtain ⟨q35, h⟩ := h
  obtain ⟨w5, hw35⟩ : ∃ u, u = setAll w4 (Addr.mk b34 0 none) (S23 x12 x13 x14 x15 x16 x17 x18 x19 x20 x21 x22 x23 x24 x25 x26 x27 x28 x29 x30 x31 x32 x33) 0 := ⟨_, rfl⟩
  replace h := h w5 hw35
  refine wpR_skp (w' := w5) rfl rfl ((x_store (v := (V23 x12 x13 x14 x15 x16 x17 x18 x19 x20 x21 x22 x23 x24 x25 x26 x27 x28 x29 x30 x31 x32 x33)) rfl rfl rfl SZ_24 (ones (by rfl)) q35).trans (by rw [hw35]; rfl)) ?_
  refine wpR_nil ?_
  refine wpC_seq ?_
  refine wpC_cut (fun ρ => ρ 2 = (Value.pointer (some (Addr.mk b9 0 none))) ∧ ρ 3 = (Value.pointer (some (Addr.mk b10 0 none))) ∧ ρ 4 = (Value.pointer (some (Addr.mk b11 0 none))) ∧ ρ 5 = (Value.pointer (some (Addr.mk b34 0 none))) ∧ True) ⟨e2, e3, e4, rfl, trivial⟩ ?_
  rintro ρ ⟨e2, e3, e4, e5, -⟩
  obtain ⟨J37, h, hk⟩ := h
  refine wpC_drawJ (by kernel_rfl) (fun (x : Unit) ρ => ρ 2 = (Value.pointer (some (Addr.mk b9 0 none))) ∧ ρ 3 = (Value.pointer (some (Addr.mk b10 0 none))) ∧ ρ 4 = (Value.pointer (some (Addr.mk b11 0 none))) ∧ ρ 5 = (Value.pointer (some (Addr.mk b34 0 none))) ∧ True) J37 ?_ ?_
  · clear hk
    unfold tk at h
    generalize w5.drew = w6 at h ⊢
    refine wpD_take (v := (Value.pointer (some ((Addr.mk b9 0 none).add 1)))) 0 (fun _ => True) rfl (by kernel_rfl) (by kernel_rfl) (by kernel_rfl) rfl rfl rfl trivial (fun w _ => (x_fieldAddr rfl e2 FA_24_1)) ?_
    obtain ⟨x38, q38, h⟩ := h
    refine wpD_take (v := (Value.int .i64 x38)) 1 (fun w => w.cell? ((Addr.mk b9 0 none).add 1) = some (Value.int .i64 x38)) rfl (by kernel_rfl) (by kernel_rfl) (by kernel_rfl) rfl rfl rfl q38 (fun w q38 => (x_load1 rfl rfl SH_3 q38)) ?_
    refine wpD_take (v := (Value.pointer (some ((Addr.mk b10 0 none).add 1)))) 2 (fun _ => True) rfl (by kernel_rfl) (by kernel_rfl) (by kernel_rfl) rfl rfl rfl trivial (fun w _ => (x_fieldAddr rfl e3 FA_24_1)) ?_
    obtain ⟨x39, q39, h⟩ := h
    refine wpD_take (v := (Value.int .i64 x39)) 3 (fun w => w.cell? ((Addr.mk b10 0 none).add 1) = some (Value.int .i64 x39)) rfl (by kernel_rfl) (by kernel_rfl) (by kernel_rfl) rfl rfl rfl q39 (fun w q39 => (x_load1 rfl rfl SH_3 q39)) ?_
    refine wpD_take (v := (Value.int .i64 (min x38 x39))) 4 (fun _ => True) rfl (by kernel_rfl) (by kernel_rfl) (by kernel_rfl) rfl rfl rfl trivial (fun w _ => (x_min rfl rfl rfl)) ?_
    refine wpD_take (v := (Value.pointer (some ((Addr.mk b9 0 none).add 3)))) 5 (fun _ => True) rfl (by kernel_rfl) (by kernel_rfl) (by kernel_rfl) rfl rfl rfl trivial (fun w _ => (x_fieldAddr rfl e2 FA_24_3)) ?_
    obtain ⟨x40, q40, h⟩ := h
    refine wpD_take (v := (Value.int .i64 x40)) 6 (fun w => w.cell? ((Addr.mk b9 0 none).add 3) = some (Value.int .i64 x40)) rfl (by kernel_rfl) (by kernel_rfl) (by kernel_rfl) rfl rfl rfl q40 (fun w q40 => (x_load1 rfl rfl SH_3 q40)) ?_
    refine wpD_take (v := (Value.pointer (some ((Addr.mk b10 0 none).add 3)))) 7 (fun _ => True) rfl (by kernel_rfl) (by kernel_rfl) (by kernel_rfl) rfl rfl rfl trivial (fun w _ => (x_fieldAddr rfl e3 FA_24_3)) ?_
    obtain ⟨x41, q41, h⟩ := h
    refine wpD_take (v := (Value.int .i64 x41)) 8 (fun w => w.cell? ((Addr.mk b10 0 none).add 3) = some (Value.int .i64 x41)) rfl (by kernel_rfl) (by kernel_rfl) (by kernel_rfl) rfl rfl rfl q41 (fun w q41 => (x_load1 rfl rfl SH_3 q41)) ?_
    refine wpD_take (v := (Value.int .i64 (min x40 x41))) 9 (fun _ => True) rfl (by kernel_rfl) (by kernel_rfl) (by kernel_rfl) rfl rfl rfl trivial (fun w _ => (x_min rfl rfl rfl)) ?_
    refine wpD_take (v := (Value.pointer (some ((Addr.mk b9 0 none).add 5)))) 10 (fun _ => True) rfl (by kernel_rfl) (by kernel_rfl) (by kernel_rfl) rfl rfl rfl trivial (fun w _ => (x_fieldAddr rfl e2 FA_24_5)) ?_
    obtain ⟨x42, q42, h⟩ := h
    refine wpD_take (v := (Value.int .i64 x42)) 11 (fun w => w.cell? ((Addr.mk b9 0 none).add 5) = some (Value.int .i64 x42)) rfl (by kernel_rfl) (by kernel_rfl) (by kernel_rfl) rfl rfl rfl q42 (fun w q42 => (x_load1 rfl rfl SH_3 q42)) ?_
    refine wpD_take (v := (Value.pointer (some ((Addr.mk b10 0 none).add 5)))) 12 (fun _ => True) rfl (by kernel_rfl) (by kernel_rfl) (by kernel_rfl) rfl rfl rfl trivial (fun w _ => (x_fieldAddr rfl e3 FA_24_5)) ?_
    obtain ⟨x43, q43, h⟩ := h
    refine wpD_take (v := (Value.int .i64 x43)) 13 (fun w => w.cell? ((Addr.mk b10 0 none).add 5) = some (Value.int .i64 x43)) rfl (by kernel_rfl) (by kernel_rfl) (by kernel_rfl) rfl rfl rfl q43 (fun w q43 => (x_load1 rfl rfl SH_3 q43)) ?_
    refine wpD_take (v := (Value.int .i64 (min x42 x43))) 14 (fun _ => True) rfl (by kernel_rfl) (by kernel_rfl) (by kernel_rfl) rfl rfl rfl trivial (fun w _ => (x_min rfl rfl rfl)) ?_
    refine wpD_take (v := (Value.pointer (some ((Addr.mk b34 0 none).add 1)))) 15 (fun _ => True) rfl (by kernel_rfl) (by kernel_rfl) (by kernel_rfl) rfl rfl rfl trivial (fun w _ => (x_fieldAddr rfl e5 FA_24_1)) ?_
    refine wpD_all (rs := [16]) (by kernel_rfl) (by simp) (allD_cons ?_ allD_nil)
    obtain ⟨q44, h⟩ := h
    obtain ⟨w7, hw44⟩ : ∃ u, u = setAll w6 ((Addr.mk b34 0 none).add 1) [(Value.int .i64 (min x38 x39))] 0 := ⟨_, rfl⟩
    replace h := h w7 hw44
    obtain ⟨o13, h⟩ := h
    obtain ⟨o11, h⟩ := h
    obtain ⟨o8, h⟩ := h
    obtain ⟨o6, h⟩ := h
    refine stepD_skpL (L' := [(14, fun _ => True), (13, fun w => w.cell? ((Addr.mk b10 0 none).add 5) = some (Value.int .i64 x43)), (12, fun _ => True), (11, fun w => w.cell? ((Addr.mk b9 0 none).add 5) = some (Value.int .i64 x42)), (10, fun _ => True), (9, fun _ => True), (8, fun w => w.cell? ((Addr.mk b10 0 none).add 3) = some (Value.int .i64 x41)), (7, fun _ => True), (6, fun w => w.cell? ((Addr.mk b9 0 none).add 3) = some (Value.int .i64 x40)), (5, fun _ => True)]) (w' := w7) rfl rfl rfl ((x_store (v := (Value.int .i64 (min x38 x39))) rfl rfl rfl SZ_3 (ones (by rfl)) q44).trans (by rw [hw44]; rfl)) (by kernel_rfl) (held_cons trivial (held_cons o13 (held_cons trivial (held_cons o11 (held_cons trivial (held_cons trivial (held_cons o8 (held_cons trivial (held_cons o6 (held_cons trivial held_nil)))))))))) ?_
    refine wpD_take (v := (Value.pointer (some ((Addr.mk b34 0 none).add 3)))) 17 (fun _ => True) rfl (by kernel_rfl) (by kernel_rfl) (by kernel_rfl) rfl rfl rfl trivial (fun w _ => (x_fieldAddr rfl e5 FA_24_3)) ?_
    refine wpD_all (rs := [18]) (by kernel_rfl) (by simp) (allD_cons ?_ allD_nil)
    obtain ⟨q45, h⟩ := h
    obtain ⟨w8, hw45⟩ : ∃ u, u = setAll w7 ((Addr.mk b34 0 none).add 3) [(Value.int .i64 (min x40 x41))] 0 := ⟨_, rfl⟩
    replace h := h w8 hw45
    obtain ⟨o13, h⟩ := h
    obtain ⟨o11, h⟩ := h
    refine stepD_skpL (L' := [(14, fun _ => True), (13, fun w => w.cell? ((Addr.mk b10 0 none).add 5) = some (Value.int .i64 x43)), (12, fun _ => True), (11, fun w => w.cell? ((Addr.mk b9 0 none).add 5) = some (Value.int .i64 x42)), (10, fun _ => True)]) (w' := w8) rfl rfl rfl ((x_store (v := (Value.int .i64 (min x40 x41))) rfl rfl rfl SZ_3 (ones (by rfl)) q45).trans (by rw [hw45]; rfl)) (by kernel_rfl) (held_cons trivial (held_cons o13 (held_cons trivial (held_cons o11 (held_cons trivial held_nil))))) ?_
    refine wpD_take (v := (Value.pointer (some ((Addr.mk b34 0 none).add 5)))) 19 (fun _ => True) rfl (by kernel_rfl) (by kernel_rfl) (by kernel_rfl) rfl rfl rfl trivial (fun w _ => (x_fieldAddr rfl e5 FA_24_5)) ?_
    refine wpD_all (rs := [20]) (by kernel_rfl) (by simp) (allD_cons ?_ allD_nil)
    obtain ⟨q46, h⟩ := h
    obtain ⟨w9, hw46⟩ : ∃ u, u = setAll w8 ((Addr.mk b34 0 none).add 5) [(Value.int .i64 (min x42 x43))] 0 := ⟨_, rfl⟩
    replace h := h w9 hw46
    refine stepD_skpL (L' := []) (w' := w9) rfl rfl rfl ((x_store (v := (Value.int .i64 (min x42 x43))) rfl rfl rfl SZ_3 (ones (by rfl)) q46).trans (by rw [hw46]; rfl)) (by kernel_rfl) held_nil ?_
    exact wpD_done (by kernel_rfl) ⟨(), ⟨e2, e3, e4, e5, trivial⟩, h⟩
  clear h
  rintro l47 ρ w10 ⟨e2, e3, e4, e5, -⟩ h
  replace h := hk l47 w10 h
  clear hk
  refine wpC_seq ?_
  obtain ⟨J49, h, hk⟩ := h
  refine wpC_drawJ (by kernel_rfl) (fun (x : Unit) ρ => ρ 2 = (Value.pointer (some (Addr.mk b9 0 none))) ∧ ρ 3 = (Value.pointer (some (Addr.mk b10 0 none))) ∧ ρ 4 = (Value.pointer (some (Addr.mk b11 0 none))) ∧ ρ 5 = (Value.pointer (some (Addr.mk b34 0 none))) ∧ True) J49 ?_ ?_
  · clear hk
    unfold tk at h
    generalize w10.drew = w11 at h ⊢
    refine wpD_take (v := (Value.pointer (some ((Addr.mk b9 0 none).add 4)))) 0 (fun _ => True) rfl (by kernel_rfl) (by kernel_rfl) (by kernel_rfl) rfl rfl rfl trivial (fun w _ => (x_fieldAddr rfl e2 FA_24_4)) ?_
    obtain ⟨x50, q50, h⟩ := h
    refine wpD_take (v := (Value.bool x50)) 1 (fun w => w.cell? ((Addr.mk b9 0 none).add 4) = some (Value.bool x50)) rfl (by kernel_rfl) (by kernel_rfl) (by kernel_rfl) rfl rfl rfl q50 (fun w q50 => (x_load1 rfl rfl SH_4 q50)) ?_
    refine wpD_take (v := (Value.bool x50)) 2 (fun _ => True) rfl (by kernel_rfl) (by kernel_rfl) (by kernel_rfl) rfl rfl rfl trivial (fun w _ => (x_move (v := (Value.bool x50)) rfl rfl)) ?_
    rcases Bool.eq_false_or_eq_true (x50) with hc51 | hc51
    · replace h := h.1 hc51
      refine wpD_take (v := (Value.pointer (some ((Addr.mk b10 0 none).add 4)))) 3 (fun _ => True) rfl (by kernel_rfl) (by kernel_rfl) (by kernel_rfl) (wantG rfl rfl rfl hc51) rfl rfl trivial (fun w _ => (x_fieldAddr rfl e3 FA_24_4)) ?_
      obtain ⟨x52, q52, h⟩ := h
      refine wpD_take (v := (Value.bool x52)) 4 (fun w => w.cell? ((Addr.mk b10 0 none).add 4) = some (Value.bool x52)) rfl (by kernel_rfl) (by kernel_rfl) (by kernel_rfl) (wantG rfl rfl rfl hc51) rfl rfl q52 (fun w q52 => (x_load1 rfl rfl SH_4 q52)) ?_
      refine wpD_take (v := (Value.bool x52)) 5 (fun _ => True) rfl (by kernel_rfl) (by kernel_rfl) (by kernel_rfl) rfl rfl rfl trivial (fun w _ => (x_pickT (v := (Value.bool x52)) rfl rfl hc51 rfl)) ?_
      refine wpD_take (v := (Value.pointer (some ((Addr.mk b9 0 none).add 6)))) 6 (fun _ => True) rfl (by kernel_rfl) (by kernel_rfl) (by kernel_rfl) rfl rfl rfl trivial (fun w _ => (x_fieldAddr rfl e2 FA_24_6)) ?_
      obtain ⟨x53, q53, h⟩ := h
      refine wpD_take (v := (Value.bool x53)) 7 (fun w => w.cell? ((Addr.mk b9 0 none).add 6) = some (Value.bool x53)) rfl (by kernel_rfl) (by kernel_rfl) (by kernel_rfl) rfl rfl rfl q53 (fun w q53 => (x_load1 rfl rfl SH_4 q53)) ?_
      refine wpD_take (v := (Value.bool x53)) 8 (fun _ => True) rfl (by kernel_rfl) (by kernel_rfl) (by kernel_rfl) rfl rfl rfl trivial (fun w _ => (x_move (v := (Value.bool x53)) rfl rfl)) ?_
      rcases Bool.eq_false_or_eq_true (x53) with hc54 | hc54
      · replace h := h.1 hc54
        refine wpD_take (v := (Value.pointer (some ((Addr.mk b10 0 none).add 6)))) 9 (fun _ => True) rfl (by kernel_rfl) (by kernel_rfl) (by kernel_rfl) (wantG rfl rfl rfl hc54) rfl rfl trivial (fun w _ => (x_fieldAddr rfl e3 FA_24_6)) ?_
        obtain ⟨x55, q55, h⟩ := h
        refine wpD_take (v := (Value.bool x55)) 10 (fun w => w.cell? ((Addr.mk b10 0 none).add 6) = some (Value.bool x55)) rfl (by kernel_rfl) (by kernel_rfl) (by kernel_rfl) (wantG rfl rfl rfl hc54) rfl rfl q55 (fun w q55 => (x_load1 rfl rfl SH_4 q55)) ?_
        refine wpD_take (v := (Value.bool x55)) 11 (fun _ => True) rfl (by kernel_rfl) (by kernel_rfl) (by kernel_rfl) rfl rfl rfl trivial (fun w _ => (x_pickT (v := (Value.bool x55)) rfl rfl hc54 rfl)) ?_
        refine wpD_take (v := (Value.pointer (some ((Addr.mk b9 0 none).add 7)))) 12 (fun _ => True) rfl (by kernel_rfl) (by kernel_rfl) (by kernel_rfl) rfl rfl rfl trivial (fun w _ => (x_fieldAddr rfl e2 FA_24_7)) ?_
        obtain ⟨x56, q56, h⟩ := h
        refine wpD_take (v := (Value.bool x56)) 13 (fun w => w.cell? ((Addr.mk b9 0 none).add 7) = some (Value.bool x56)) rfl (by kernel_rfl) (by kernel_rfl) (by kernel_rfl) rfl rfl rfl q56 (fun w q56 => (x_load1 rfl rfl SH_4 q56)) ?_
        refine wpD_take (v := (Value.bool x56)) 14 (fun _ => True) rfl (by kernel_rfl) (by kernel_rfl) (by kernel_rfl) rfl rfl rfl trivial (fun w _ => (x_move (v := (Value.bool x56)) rfl rfl)) ?_
        rcases Bool.eq_false_or_eq_true (x56) with hc57 | hc57
        · replace h := h.1 hc57
          refine wpD_take (v := (Value.pointer (some ((Addr.mk b10 0 none).add 7)))) 15 (fun _ => True) rfl (by kernel_rfl) (by kernel_rfl) (by kernel_rfl) (wantG rfl rfl rfl hc57) rfl rfl trivial (fun w _ => (x_fieldAddr rfl e3 FA_24_7)) ?_
          obtain ⟨x58, q58, h⟩ := h
          refine wpD_take (v := (Value.bool x58)) 16 (fun w => w.cell? ((Addr.mk b10 0 none).add 7) = some (Value.bool x58)) rfl (by kernel_rfl) (by kernel_rfl) (by kernel_rfl) (wantG rfl rfl rfl hc57) rfl rfl q58 (fun w q58 => (x_load1 rfl rfl SH_4 q58)) ?_
          refine wpD_take (v := (Value.bool x58)) 17 (fun _ => True) rfl (by kernel_rfl) (by kernel_rfl) (by kernel_rfl) rfl rfl rfl trivial (fun w _ => (x_pickT (v := (Value.bool x58)) rfl rfl hc57 rfl)) ?_
          refine wpD_take (v := (Value.pointer (some ((Addr.mk b34 0 none).add 4)))) 18 (fun _ => True) rfl (by kernel_rfl) (by kernel_rfl) (by kernel_rfl) rfl rfl rfl trivial (fun w _ => (x_fieldAddr rfl e5 FA_24_4)) ?_
          refine wpD_all (rs := [19]) (by kernel_rfl) (by simp) (allD_cons ?_ allD_nil)
          obtain ⟨q59, h⟩ := h
          obtain ⟨w12, hw59⟩ : ∃ u, u = setAll w11 ((Addr.mk b34 0 none).add 4) [(Value.bool x52)] 0 := ⟨_, rfl⟩
          replace h := h w12 hw59
          obtain ⟨o16, h⟩ := h
          obtain ⟨o13, h⟩ := h
          obtain ⟨o10, h⟩ := h
          obtain ⟨o7, h⟩ := h
          refine stepD_skpL (L' := [(17, fun _ => True), (16, fun w => w.cell? ((Addr.mk b10 0 none).add 7) = some (Value.bool x58)), (15, fun _ => True), (13, fun w => w.cell? ((Addr.mk b9 0 none).add 7) = some (Value.bool x56)), (12, fun _ => True), (11, fun _ => True), (10, fun w => w.cell? ((Addr.mk b10 0 none).add 6) = some (Value.bool x55)), (9, fun _ => True), (8, fun _ => True), (7, fun w => w.cell? ((Addr.mk b9 0 none).add 6) = some (Value.bool x53)), (6, fun _ => True)]) (w' := w12) rfl rfl rfl ((x_store (v := (Value.bool x52)) rfl rfl rfl SZ_4 (ones (by rfl)) q59).trans (by rw [hw59]; rfl)) (by kernel_rfl) (held_cons trivial (held_cons o16 (held_cons trivial (held_cons o13 (held_cons trivial (held_cons trivial (held_cons o10 (held_cons trivial (held_cons trivial (held_cons o7 (held_cons trivial held_nil))))))))))) ?_
          refine wpD_take (v := (Value.pointer (some ((Addr.mk b34 0 none).add 6)))) 20 (fun _ => True) rfl (by kernel_rfl) (by kernel_rfl) (by kernel_rfl) rfl rfl rfl trivial (fun w _ => (x_fieldAddr rfl e5 FA_24_6)) ?_
          refine wpD_all (rs := [21]) (by kernel_rfl) (by simp) (allD_cons ?_ allD_nil)
          obtain ⟨q60, h⟩ := h
          obtain ⟨w13, hw60⟩ : ∃ u, u = setAll w12 ((Addr.mk b34 0 none).add 6) [(Value.bool x55)] 0 := ⟨_, rfl⟩
          replace h := h w13 hw60
          obtain ⟨o16, h⟩ := h
          obtain ⟨o13, h⟩ := h
          refine stepD_skpL (L' := [(17, fun _ => True), (16, fun w => w.cell? ((Addr.mk b10 0 none).add 7) = some (Value.bool x58)), (15, fun _ => True), (13, fun w => w.cell? ((Addr.mk b9 0 none).add 7) = some (Value.bool x56)), (12, fun _ => True)]) (w' := w13) rfl rfl rfl ((x_store (v := (Value.bool x55)) rfl rfl rfl SZ_4 (ones (by rfl)) q60).trans (by rw [hw60]; rfl)) (by kernel_rfl) (held_cons trivial (held_cons o16 (held_cons trivial (held_cons o13 (held_cons trivial held_nil))))) ?_
          refine wpD_take (v := (Value.pointer (some ((Addr.mk b34 0 none).add 7)))) 22 (fun _ => True) rfl (by kernel_rfl) (by kernel_rfl) (by kernel_rfl) rfl rfl rfl trivial (fun w _ => (x_fieldAddr rfl e5 FA_24_7)) ?_
          refine wpD_all (rs := [23]) (by kernel_rfl) (by simp) (allD_cons ?_ allD_nil)
          obtain ⟨q61, h⟩ := h
          obtain ⟨w14, hw61⟩ : ∃ u, u = setAll w13 ((Addr.mk b34 0 none).add 7) [(Value.bool x58)] 0 := ⟨_, rfl⟩
          replace h := h w14 hw61
          refine stepD_skpL (L' := []) (w' := w14) rfl rfl rfl ((x_store (v := (Value.bool x58)) rfl rfl rfl SZ_4 (ones (by rfl)) q61).trans (by rw [hw61]; rfl)) (by kernel_rfl) held_nil ?_
          exact wpD_done (by kernel_rfl) ⟨(), ⟨e2, e3, e4, e5, trivial⟩, h⟩
        · replace h := h.2 hc57
          refine wpD_pass 15 rfl (by kernel_rfl) (by kernel_rfl) (by kernel_rfl) (wantN rfl rfl rfl hc57) rfl rfl ?_
          refine wpD_pass 16 rfl (by kernel_rfl) (by kernel_rfl) (by kernel_rfl) (wantN rfl rfl rfl hc57) rfl rfl ?_
          refine wpD_take (v := (Value.bool false)) 17 (fun _ => True) rfl (by kernel_rfl) (by kernel_rfl) (by kernel_rfl) rfl rfl rfl trivial (fun w _ => (x_pickF (v := (Value.bool false)) rfl rfl hc57 rfl)) ?_
          refine wpD_take (v := (Value.pointer (some ((Addr.mk b34 0 none).add 4)))) 18 (fun _ => True) rfl (by kernel_rfl) (by kernel_rfl) (by kernel_rfl) rfl rfl rfl trivial (fun w _ => (x_fieldAddr rfl e5 FA_24_4)) ?_
          refine wpD_all (rs := [19]) (by kernel_rfl) (by simp) (allD_cons ?_ allD_nil)
          obtain ⟨q62, h⟩ := h
          obtain ⟨w15, hw62⟩ : ∃ u, u = setAll w11 ((Addr.mk b34 0 none).add 4) [(Value.bool x52)] 0 := ⟨_, rfl⟩
          replace h := h w15 hw62
          obtain ⟨o13, h⟩ := h
          obtain ⟨o10, h⟩ := h
          obtain ⟨o7, h⟩ := h
          refine stepD_skpL (L' := [(17, fun _ => True), (16, fun _ => True), (15, fun _ => True), (13, fun w => w.cell? ((Addr.mk b9 0 none).add 7) = some (Value.bool x56)), (12, fun _ => True), (11, fun _ => True), (10, fun w => w.cell? ((Addr.mk b10 0 none).add 6) = some (Value.bool x55)), (9, fun _ => True), (8, fun _ => True), (7, fun w => w.cell? ((Addr.mk b9 0 none).add 6) = some (Value.bool x53)), (6, fun _ => True)]) (w' := w15) rfl rfl rfl ((x_store (v := (Value.bool x52)) rfl rfl rfl SZ_4 (ones (by rfl)) q62).trans (by rw [hw62]; rfl)) (by kernel_rfl) (held_cons trivial (held_cons trivial (held_cons trivial (held_cons o13 (held_cons trivial (held_cons trivial (held_cons o10 (held_cons trivial (held_cons trivial (held_cons o7 (held_cons trivial held_nil))))))))))) ?_
          refine wpD_take (v := (Value.pointer (some ((Addr.mk b34 0 none).add 6)))) 20 (fun _ => True) rfl (by kernel_rfl) (by kernel_rfl) (by kernel_rfl) rfl rfl rfl trivial (fun w _ => (x_fieldAddr rfl e5 FA_24_6)) ?_
          refine wpD_all (rs := [21]) (by kernel_rfl) (by simp) (allD_cons ?_ allD_nil)
          obtain ⟨q63, h⟩ := h
          obtain ⟨w16, hw63⟩ : ∃ u, u = setAll w15 ((Addr.mk b34 0 none).add 6) [(Value.bool x55)] 0 := ⟨_, rfl⟩
          replace h := h w16 hw63
          obtain ⟨o13, h⟩ := h
          refine stepD_skpL (L' := [(17, fun _ => True), (16, fun _ => True), (15, fun _ => True), (13, fun w => w.cell? ((Addr.mk b9 0 none).add 7) = some (Value.bool x56)), (12, fun _ => True)]) (w' := w16) rfl rfl rfl ((x_store (v := (Value.bool x55)) rfl rfl rfl SZ_4 (ones (by rfl)) q63).trans (by rw [hw63]; rfl)) (by kernel_rfl) (held_cons trivial (held_cons trivial (held_cons trivial (held_cons o13 (held_cons trivial held_nil))))) ?_
          refine wpD_take (v := (Value.pointer (some ((Addr.mk b34 0 none).add 7)))) 22 (fun _ => True) rfl (by kernel_rfl) (by kernel_rfl) (by kernel_rfl) rfl rfl rfl trivial (fun w _ => (x_fieldAddr rfl e5 FA_24_7)) ?_
          refine wpD_all (rs := [23]) (by kernel_rfl) (by simp) (allD_cons ?_ allD_nil)
          obtain ⟨q64, h⟩ := h
          obtain ⟨w17, hw64⟩ : ∃ u, u = setAll w16 ((Addr.mk b34 0 none).add 7) [(Value.bool false)] 0 := ⟨_, rfl⟩
          replace h := h w17 hw64
          refine stepD_skpL (L' := []) (w' := w17) rfl rfl rfl ((x_store (v := (Value.bool false)) rfl rfl rfl SZ_4 (ones (by rfl)) q64).trans (by rw [hw64]; rfl)) (by kernel_rfl) held_nil ?_
          exact wpD_done (by kernel_rfl) ⟨(), ⟨e2, e3, e4, e5, trivial⟩, h⟩
      · replace h := h.2 hc54
        refine wpD_pass 9 rfl (by kernel_rfl) (by kernel_rfl) (by kernel_rfl) (wantN rfl rfl rfl hc54) rfl rfl ?_
        refine wpD_pass 10 rfl (by kernel_rfl) (by kernel_rfl) (by kernel_rfl) (wantN rfl rfl rfl hc54) rfl rfl ?_
        refine wpD_take (v := (Value.bool false)) 11 (fun _ => True) rfl (by kernel_rfl) (by kernel_rfl) (by kernel_rfl) rfl rfl rfl trivial (fun w _ => (x_pickF (v := (Value.bool false)) rfl rfl hc54 rfl)) ?_
        refine wpD_take (v := (Value.pointer (some ((Addr.mk b9 0 none).add 7)))) 12 (fun _ => True) rfl (by kernel_rfl) (by kernel_rfl) (by kernel_rfl) rfl rfl rfl trivial (fun w _ => (x_fieldAddr rfl e2 FA_24_7)) ?_
        obtain ⟨x65, q65, h⟩ := h
        refine wpD_take (v := (Value.bool x65)) 13 (fun w => w.cell? ((Addr.mk b9 0 none).add 7) = some (Value.bool x65)) rfl (by kernel_rfl) (by kernel_rfl) (by kernel_rfl) rfl rfl rfl q65 (fun w q65 => (x_load1 rfl rfl SH_4 q65)) ?_
        refine wpD_take (v := (Value.bool x65)) 14 (fun _ => True) rfl (by kernel_rfl) (by kernel_rfl) (by kernel_rfl) rfl rfl rfl trivial (fun w _ => (x_move (v := (Value.bool x65)) rfl rfl)) ?_
        rcases Bool.eq_false_or_eq_true (x65) with hc66 | hc66
        · replace h := h.1 hc66
          refine wpD_take (v := (Value.pointer (some ((Addr.mk b10 0 none).add 7)))) 15 (fun _ => True) rfl (by kernel_rfl) (by kernel_rfl) (by kernel_rfl) (wantG rfl rfl rfl hc66) rfl rfl trivial (fun w _ => (x_fieldAddr rfl e3 FA_24_7)) ?_
          obtain ⟨x67, q67, h⟩ := h
          refine wpD_take (v := (Value.bool x67)) 16 (fun w => w.cell? ((Addr.mk b10 0 none).add 7) = some (Value.bool x67)) rfl (by kernel_rfl) (by kernel_rfl) (by kernel_rfl) (wantG rfl rfl rfl hc66) rfl rfl q67 (fun w q67 => (x_load1 rfl rfl SH_4 q67)) ?_
          refine wpD_take (v := (Value.bool x67)) 17 (fun _ => True) rfl (by kernel_rfl) (by kernel_rfl) (by kernel_rfl) rfl rfl rfl trivial (fun w _ => (x_pickT (v := (Value.bool x67)) rfl rfl hc66 rfl)) ?_
          refine wpD_take (v := (Value.pointer (some ((Addr.mk b34 0 none).add 4)))) 18 (fun _ => True) rfl (by kernel_rfl) (by kernel_rfl) (by kernel_rfl) rfl rfl rfl trivial (fun w _ => (x_fieldAddr rfl e5 FA_24_4)) ?_
          refine wpD_all (rs := [19]) (by kernel_rfl) (by simp) (allD_cons ?_ allD_nil)
          obtain ⟨q68, h⟩ := h
          obtain ⟨w18, hw68⟩ : ∃ u, u = setAll w11 ((Addr.mk b34 0 none).add 4) [(Value.bool x52)] 0 := ⟨_, rfl⟩
          replace h := h w18 hw68
          obtain ⟨o16, h⟩ := h
          obtain ⟨o13, h⟩ := h
          obtain ⟨o7, h⟩ := h
          refine stepD_skpL (L' := [(17, fun _ => True), (16, fun w => w.cell? ((Addr.mk b10 0 none).add 7) = some (Value.bool x67)), (15, fun _ => True), (13, fun w => w.cell? ((Addr.mk b9 0 none).add 7) = some (Value.bool x65)), (12, fun _ => True), (11, fun _ => True), (10, fun _ => True), (9, fun _ => True), (8, fun _ => True), (7, fun w => w.cell? ((Addr.mk b9 0 none).add 6) = some (Value.bool x53)), (6, fun _ => True)]) (w' := w18) rfl rfl rfl ((x_store (v := (Value.bool x52)) rfl rfl rfl SZ_4 (ones (by rfl)) q68).trans (by rw [hw68]; rfl)) (by kernel_rfl) (held_cons trivial (held_cons o16 (held_cons trivial (held_cons o13 (held_cons trivial (held_cons trivial (held_cons trivial (held_cons trivial (held_cons trivial (held_cons o7 (held_cons trivial held_nil))))))))))) ?_
          refine wpD_take (v := (Value.pointer (some ((Addr.mk b34 0 none).add 6)))) 20 (fun _ => True) rfl (by kernel_rfl) (by kernel_rfl) (by kernel_rfl) rfl rfl rfl trivial (fun w _ => (x_fieldAddr rfl e5 FA_24_6)) ?_
          refine wpD_all (rs := [21]) (by kernel_rfl) (by simp) (allD_cons ?_ allD_nil)
          obtain ⟨q69, h⟩ := h
          obtain ⟨w19, hw69⟩ : ∃ u, u = setAll w18 ((Addr.mk b34 0 none).add 6) [(Value.bool false)] 0 := ⟨_, rfl⟩
          replace h := h w19 hw69
          obtain ⟨o16, h⟩ := h
          obtain ⟨o13, h⟩ := h
          refine stepD_skpL (L' := [(17, fun _ => True), (16, fun w => w.cell? ((Addr.mk b10 0 none).add 7) = some (Value.bool x67)), (15, fun _ => True), (13, fun w => w.cell? ((Addr.mk b9 0 none).add 7) = some (Value.bool x65)), (12, fun _ => True)]) (w' := w19) rfl rfl rfl ((x_store (v := (Value.bool false)) rfl rfl rfl SZ_4 (ones (by rfl)) q69).trans (by rw [hw69]; rfl)) (by kernel_rfl) (held_cons trivial (held_cons o16 (held_cons trivial (held_cons o13 (held_cons trivial held_nil))))) ?_
          refine wpD_take (v := (Value.pointer (some ((Addr.mk b34 0 none).add 7)))) 22 (fun _ => True) rfl (by kernel_rfl) (by kernel_rfl) (by kernel_rfl) rfl rfl rfl trivial (fun w _ => (x_fieldAddr rfl e5 FA_24_7)) ?_
          refine wpD_all (rs := [23]) (by kernel_rfl) (by simp) (allD_cons ?_ allD_nil)
          obtain ⟨q70, h⟩ := h
          obtain ⟨w20, hw70⟩ : ∃ u, u = setAll w19 ((Addr.mk b34 0 none).add 7) [(Value.bool x67)] 0 := ⟨_, rfl⟩
          replace h := h w20 hw70
          refine stepD_skpL (L' := []) (w' := w20) rfl rfl rfl ((x_store (v := (Value.bool x67)) rfl rfl rfl SZ_4 (ones (by rfl)) q70).trans (by rw [hw70]; rfl)) (by kernel_rfl) held_nil ?_
          exact wpD_done (by kernel_rfl) ⟨(), ⟨e2, e3, e4, e5, trivial⟩, h⟩
        · replace h := h.2 hc66
          refine wpD_pass 15 rfl (by kernel_rfl) (by kernel_rfl) (by kernel_rfl) (wantN rfl rfl rfl hc66) rfl rfl ?_
          refine wpD_pass 16 rfl (by kernel_rfl) (by kernel_rfl) (by kernel_rfl) (wantN rfl rfl rfl hc66) rfl rfl ?_
          refine wpD_take (v := (Value.bool false)) 17 (fun _ => True) rfl (by kernel_rfl) (by kernel_rfl) (by kernel_rfl) rfl rfl rfl trivial (fun w _ => (x_pickF (v := (Value.bool false)) rfl rfl hc66 rfl)) ?_
          refine wpD_take (v := (Value.pointer (some ((Addr.mk b34 0 none).add 4)))) 18 (fun _ => True) rfl (by kernel_rfl) (by kernel_rfl) (by kernel_rfl) rfl rfl rfl trivial (fun w _ => (x_fieldAddr rfl e5 FA_24_4)) ?_
          refine wpD_all (rs := [19]) (by kernel_rfl) (by simp) (allD_cons ?_ allD_nil)
          obtain ⟨q71, h⟩ := h
          obtain ⟨w21, hw71⟩ : ∃ u, u = setAll w11 ((Addr.mk b34 0 none).add 4) [(Value.bool x52)] 0 := ⟨_, rfl⟩
          replace h := h w21 hw71
          obtain ⟨o13, h⟩ := h
          obtain ⟨o7, h⟩ := h
          refine stepD_skpL (L' := [(17, fun _ => True), (16, fun _ => True), (15, fun _ => True), (13, fun w => w.cell? ((Addr.mk b9 0 none).add 7) = some (Value.bool x65)), (12, fun _ => True), (11, fun _ => True), (10, fun _ => True), (9, fun _ => True), (8, fun _ => True), (7, fun w => w.cell? ((Addr.mk b9 0 none).add 6) = some (Value.bool x53)), (6, fun _ => True)]) (w' := w21) rfl rfl rfl ((x_store (v := (Value.bool x52)) rfl rfl rfl SZ_4 (ones (by rfl)) q71).trans (by rw [hw71]; rfl)) (by kernel_rfl) (held_cons trivial (held_cons trivial (held_cons trivial (held_cons o13 (held_cons trivial (held_cons trivial (held_cons trivial (held_cons trivial (held_cons trivial (held_cons o7 (held_cons trivial held_nil))))))))))) ?_
          refine wpD_take (v := (Value.pointer (some ((Addr.mk b34 0 none).add 6)))) 20 (fun _ => True) rfl (by kernel_rfl) (by kernel_rfl) (by kernel_rfl) rfl rfl rfl trivial (fun w _ => (x_fieldAddr rfl e5 FA_24_6)) ?_
          refine wpD_all (rs := [21]) (by kernel_rfl) (by simp) (allD_cons ?_ allD_nil)
          obtain ⟨q72, h⟩ := h
          obtain ⟨w22, hw72⟩ : ∃ u, u = setAll w21 ((Addr.mk b34 0 none).add 6) [(Value.bool false)] 0 := ⟨_, rfl⟩
          replace h := h w22 hw72
          obtain ⟨o13, h⟩ := h
          refine stepD_skpL (L' := [(17, fun _ => True), (16, fun _ => True), (15, fun _ => True), (13, fun w => w.cell? ((Addr.mk b9 0 none).add 7) = some (Value.bool x65)), (12, fun _ => True)]) (w' := w22) rfl rfl rfl ((x_store (v := (Value.bool false)) rfl rfl rfl SZ_4 (ones (by rfl)) q72).trans (by rw [hw72]; rfl)) (by kernel_rfl) (held_cons trivial (held_cons trivial (held_cons trivial (held_cons o13 (held_cons trivial held_nil))))) ?_
          refine wpD_take (v := (Value.pointer (some ((Addr.mk b34 0 none).add 7)))) 22 (fun _ => True) rfl (by kernel_rfl) (by kernel_rfl) (by kernel_rfl) rfl rfl rfl trivial (fun w _ => (x_fieldAddr rfl e5 FA_24_7)) ?_
          refine wpD_all (rs := [23]) (by kernel_rfl) (by simp) (allD_cons ?_ allD_nil)
          obtain ⟨q73, h⟩ := h
          obtain ⟨w23, hw73⟩ : ∃ u, u = setAll w22 ((Addr.mk b34 0 none).add 7) [(Value.bool false)] 0 := ⟨_, rfl⟩
          replace h := h w23 hw73
          refine stepD_skpL (L' := []) (w' := w23) rfl rfl rfl ((x_store (v := (Value.bool false)) rfl rfl rfl SZ_4 (ones (by rfl)) q73).trans (by rw [hw73]; rfl)) (by kernel_rfl) held_nil ?_
          exact wpD_done (by kernel_rfl) ⟨(), ⟨e2, e3, e4, e5, trivial⟩, h⟩
    · replace h := h.2 hc51
      refine wpD_pass 3 rfl (by kernel_rfl) (by kernel_rfl) (by kernel_rfl) (wantN rfl rfl rfl hc51) rfl rfl ?_
      refine wpD_pass 4 rfl (by kernel_rfl) (by kernel_rfl) (by kernel_rfl) (wantN rfl rfl rfl hc51) rfl rfl ?_
      refine wpD_take (v := (Value.bool false)) 5 (fun _ => True) rfl (by kernel_rfl) (by kernel_rfl) (by kernel_rfl) rfl rfl rfl trivial (fun w _ => (x_pickF (v := (Value.bool false)) rfl rfl hc51 rfl)) ?_
      refine wpD_take (v := (Value.pointer (some ((Addr.mk b9 0 none).add 6)))) 6 (fun _ => True) rfl (by kernel_rfl) (by kernel_rfl) (by kernel_rfl) rfl rfl rfl trivial (fun w _ => (x_fieldAddr rfl e2 FA_24_6)) ?_
      obtain ⟨x74, q74, h⟩ := h
      refine wpD_take (v := (Value.bool x74)) 7 (fun w => w.cell? ((Addr.mk b9 0 none).add 6) = some (Value.bool x74)) rfl (by kernel_rfl) (by kernel_rfl) (by kernel_rfl) rfl rfl rfl q74 (fun w q74 => (x_load1 rfl rfl SH_4 q74)) ?_
      refine wpD_take (v := (Value.bool x74)) 8 (fun _ => True) rfl (by kernel_rfl) (by kernel_rfl) (by kernel_rfl) rfl rfl rfl trivial (fun w _ => (x_move (v := (Value.bool x74)) rfl rfl)) ?_
      rcases Bool.eq_false_or_eq_true (x74) with hc75 | hc75
      · replace h := h.1 hc75
        refine wpD_take (v := (Value.pointer (some ((Addr.mk b10 0 none).add 6)))) 9 (fun _ => True) rfl (by kernel_rfl) (by kernel_rfl) (by kernel_rfl) (wantG rfl rfl rfl hc75) rfl rfl trivial (fun w _ => (x_fieldAddr rfl e3 FA_24_6)) ?_
        obtain ⟨x76, q76, h⟩ := h
        refine wpD_take (v := (Value.bool x76)) 10 (fun w => w.cell? ((Addr.mk b10 0 none).add 6) = some (Value.bool x76)) rfl (by kernel_rfl) (by kernel_rfl) (by kernel_rfl) (wantG rfl rfl rfl hc75) rfl rfl q76 (fun w q76 => (x_load1 rfl rfl SH_4 q76)) ?_
        refine wpD_take (v := (Value.bool x76)) 11 (fun _ => True) rfl (by kernel_rfl) (by kernel_rfl) (by kernel_rfl) rfl rfl rfl trivial (fun w _ => (x_pickT (v := (Value.bool x76)) rfl rfl hc75 rfl)) ?_
        refine wpD_take (v := (Value.pointer (some ((Addr.mk b9 0 none).add 7)))) 12 (fun _ => True) rfl (by kernel_rfl) (by kernel_rfl) (by kernel_rfl) rfl rfl rfl trivial (fun w _ => (x_fieldAddr rfl e2 FA_24_7)) ?_
        obtain ⟨x77, q77, h⟩ := h
        refine wpD_take (v := (Value.bool x77)) 13 (fun w => w.cell? ((Addr.mk b9 0 none).add 7) = some (Value.bool x77)) rfl (by kernel_rfl) (by kernel_rfl) (by kernel_rfl) rfl rfl rfl q77 (fun w q77 => (x_load1 rfl rfl SH_4 q77)) ?_
        refine wpD_take (v := (Value.bool x77)) 14 (fun _ => True) rfl (by kernel_rfl) (by kernel_rfl) (by kernel_rfl) rfl rfl rfl trivial (fun w _ => (x_move (v := (Value.bool x77)) rfl rfl)) ?_
        rcases Bool.eq_false_or_eq_true (x77) with hc78 | hc78
        · replace h := h.1 hc78
          refine wpD_take (v := (Value.pointer (some ((Addr.mk b10 0 none).add 7)))) 15 (fun _ => True) rfl (by kernel_rfl) (by kernel_rfl) (by kernel_rfl) (wantG rfl rfl rfl hc78) rfl rfl trivial (fun w _ => (x_fieldAddr rfl e3 FA_24_7)) ?_
          obtain ⟨x79, q79, h⟩ := h
          refine wpD_take (v := (Value.bool x79)) 16 (fun w => w.cell? ((Addr.mk b10 0 none).add 7) = some (Value.bool x79)) rfl (by kernel_rfl) (by kernel_rfl) (by kernel_rfl) (wantG rfl rfl rfl hc78) rfl rfl q79 (fun w q79 => (x_load1 rfl rfl SH_4 q79)) ?_
          refine wpD_take (v := (Value.bool x79)) 17 (fun _ => True) rfl (by kernel_rfl) (by kernel_rfl) (by kernel_rfl) rfl rfl rfl trivial (fun w _ => (x_pickT (v := (Value.bool x79)) rfl rfl hc78 rfl)) ?_
          refine wpD_take (v := (Value.pointer (some ((Addr.mk b34 0 none).add 4)))) 18 (fun _ => True) rfl (by kernel_rfl) (by kernel_rfl) (by kernel_rfl) rfl rfl rfl trivial (fun w _ => (x_fieldAddr rfl e5 FA_24_4)) ?_
          refine wpD_all (rs := [19]) (by kernel_rfl) (by simp) (allD_cons ?_ allD_nil)
          obtain ⟨q80, h⟩ := h
          obtain ⟨w24, hw80⟩ : ∃ u, u = setAll w11 ((Addr.mk b34 0 none).add 4) [(Value.bool false)] 0 := ⟨_, rfl⟩
          replace h := h w24 hw80
          obtain ⟨o16, h⟩ := h
          obtain ⟨o13, h⟩ := h
          obtain ⟨o10, h⟩ := h
          obtain ⟨o7, h⟩ := h
          refine stepD_skpL (L' := [(17, fun _ => True), (16, fun w => w.cell? ((Addr.mk b10 0 none).add 7) = some (Value.bool x79)), (15, fun _ => True), (13, fun w => w.cell? ((Addr.mk b9 0 none).add 7) = some (Value.bool x77)), (12, fun _ => True), (11, fun _ => True), (10, fun w => w.cell? ((Addr.mk b10 0 none).add 6) = some (Value.bool x76)), (9, fun _ => True), (8, fun _ => True), (7, fun w => w.cell? ((Addr.mk b9 0 none).add 6) = some (Value.bool x74)), (6, fun _ => True)]) (w' := w24) rfl rfl rfl ((x_store (v := (Value.bool false)) rfl rfl rfl SZ_4 (ones (by rfl)) q80).trans (by rw [hw80]; rfl)) (by kernel_rfl) (held_cons trivial (held_cons o16 (held_cons trivial (held_cons o13 (held_cons trivial (held_cons trivial (held_cons o10 (held_cons trivial (held_cons trivial (held_cons o7 (held_cons trivial held_nil))))))))))) ?_
          refine wpD_take (v := (Value.pointer (some ((Addr.mk b34 0 none).add 6)))) 20 (fun _ => True) rfl (by kernel_rfl) (by kernel_rfl) (by kernel_rfl) rfl rfl rfl trivial (fun w _ => (x_fieldAddr rfl e5 FA_24_6)) ?_
          refine wpD_all (rs := [21]) (by kernel_rfl) (by simp) (allD_cons ?_ allD_nil)
          obtain ⟨q81, h⟩ := h
          obtain ⟨w25, hw81⟩ : ∃ u, u = setAll w24 ((Addr.mk b34 0 none).add 6) [(Value.bool x76)] 0 := ⟨_, rfl⟩
          replace h := h w25 hw81
          obtain ⟨o16, h⟩ := h
          obtain ⟨o13, h⟩ := h
          refine stepD_skpL (L' := [(17, fun _ => True), (16, fun w => w.cell? ((Addr.mk b10 0 none).add 7) = some (Value.bool x79)), (15, fun _ => True), (13, fun w => w.cell? ((Addr.mk b9 0 none).add 7) = some (Value.bool x77)), (12, fun _ => True)]) (w' := w25) rfl rfl rfl ((x_store (v := (Value.bool x76)) rfl rfl rfl SZ_4 (ones (by rfl)) q81).trans (by rw [hw81]; rfl)) (by kernel_rfl) (held_cons trivial (held_cons o16 (held_cons trivial (held_cons o13 (held_cons trivial held_nil))))) ?_
          refine wpD_take (v := (Value.pointer (some ((Addr.mk b34 0 none).add 7)))) 22 (fun _ => True) rfl (by kernel_rfl) (by kernel_rfl) (by kernel_rfl) rfl rfl rfl trivial (fun w _ => (x_fieldAddr rfl e5 FA_24_7)) ?_
          refine wpD_all (rs := [23]) (by kernel_rfl) (by simp) (allD_cons ?_ allD_nil)
          obtain ⟨q82, h⟩ := h
          obtain ⟨w26, hw82⟩ : ∃ u, u = setAll w25 ((Addr.mk b34 0 none).add 7) [(Value.bool x79)] 0 := ⟨_, rfl⟩
          replace h := h w26 hw82
          refine stepD_skpL (L' := []) (w' := w26) rfl rfl rfl ((x_store (v := (Value.bool x79)) rfl rfl rfl SZ_4 (ones (by rfl)) q82).trans (by rw [hw82]; rfl)) (by kernel_rfl) held_nil ?_
          exact wpD_done (by kernel_rfl) ⟨(), ⟨e2, e3, e4, e5, trivial⟩, h⟩
        · replace h := h.2 hc78
          refine wpD_pass 15 rfl (by kernel_rfl) (by kernel_rfl) (by kernel_rfl) (wantN rfl rfl rfl hc78) rfl rfl ?_
          refine wpD_pass 16 rfl (by kernel_rfl) (by kernel_rfl) (by kernel_rfl) (wantN rfl rfl rfl hc78) rfl rfl ?_
          refine wpD_take (v := (Value.bool false)) 17 (fun _ => True) rfl (by kernel_rfl) (by kernel_rfl) (by kernel_rfl) rfl rfl rfl trivial (fun w _ => (x_pickF (v := (Value.bool false)) rfl rfl hc78 rfl)) ?_
          refine wpD_take (v := (Value.pointer (some ((Addr.mk b34 0 none).add 4)))) 18 (fun _ => True) rfl (by kernel_rfl) (by kernel_rfl) (by kernel_rfl) rfl rfl rfl trivial (fun w _ => (x_fieldAddr rfl e5 FA_24_4)) ?_
          refine wpD_all (rs := [19]) (by kernel_rfl) (by simp) (allD_cons ?_ allD_nil)
          obtain ⟨q83, h⟩ := h
          obtain ⟨w27, hw83⟩ : ∃ u, u = setAll w11 ((Addr.mk b34 0 none).add 4) [(Value.bool false)] 0 := ⟨_, rfl⟩
          replace h := h w27 hw83
          obtain ⟨o13, h⟩ := h
          obtain ⟨o10, h⟩ := h
          obtain ⟨o7, h⟩ := h
          refine stepD_skpL (L' := [(17, fun _ => True), (16, fun _ => True), (15, fun _ => True), (13, fun w => w.cell? ((Addr.mk b9 0 none).add 7) = some (Value.bool x77)), (12, fun _ => True), (11, fun _ => True), (10, fun w => w.cell? ((Addr.mk b10 0 none).add 6) = some (Value.bool x76)), (9, fun _ => True), (8, fun _ => True), (7, fun w => w.cell? ((Addr.mk b9 0 none).add 6) = some (Value.bool x74)), (6, fun _ => True)]) (w' := w27) rfl rfl rfl ((x_store (v := (Value.bool false)) rfl rfl rfl SZ_4 (ones (by rfl)) q83).trans (by rw [hw83]; rfl)) (by kernel_rfl) (held_cons trivial (held_cons trivial (held_cons trivial (held_cons o13 (held_cons trivial (held_cons trivial (held_cons o10 (held_cons trivial (held_cons trivial (held_cons o7 (held_cons trivial held_nil))))))))))) ?_
          refine wpD_take (v := (Value.pointer (some ((Addr.mk b34 0 none).add 6)))) 20 (fun _ => True) rfl (by kernel_rfl) (by kernel_rfl) (by kernel_rfl) rfl rfl rfl trivial (fun w _ => (x_fieldAddr rfl e5 FA_24_6)) ?_
          refine wpD_all (rs := [21]) (by kernel_rfl) (by simp) (allD_cons ?_ allD_nil)
          obtain ⟨q84, h⟩ := h
          obtain ⟨w28, hw84⟩ : ∃ u, u = setAll w27 ((Addr.mk b34 0 none).add 6) [(Value.bool x76)] 0 := ⟨_, rfl⟩
          replace h := h w28 hw84
          obtain ⟨o13, h⟩ := h
          refine stepD_skpL (L' := [(17, fun _ => True), (16, fun _ => True), (15, fun _ => True), (13, fun w => w.cell? ((Addr.mk b9 0 none).add 7) = some (Value.bool x77)), (12, fun _ => True)]) (w' := w28) rfl rfl rfl ((x_store (v := (Value.bool x76)) rfl rfl rfl SZ_4 (ones (by rfl)) q84).trans (by rw [hw84]; rfl)) (by kernel_rfl) (held_cons trivial (held_cons trivial (held_cons trivial (held_cons o13 (held_cons trivial held_nil))))) ?_
          refine wpD_take (v := (Value.pointer (some ((Addr.mk b34 0 none).add 7)))) 22 (fun _ => True) rfl (by kernel_rfl) (by kernel_rfl) (by kernel_rfl) rfl rfl rfl trivial (fun w _ => (x_fieldAddr rfl e5 FA_24_7)) ?_
          refine wpD_all (rs := [23]) (by kernel_rfl) (by simp) (allD_cons ?_ allD_nil)
          obtain ⟨q85, h⟩ := h
          obtain ⟨w29, hw85⟩ : ∃ u, u = setAll w28 ((Addr.mk b34 0 none).add 7) [(Value.bool false)] 0 := ⟨_, rfl⟩
          replace h := h w29 hw85
          refine stepD_skpL (L' := []) (w' := w29) rfl rfl rfl ((x_store (v := (Value.bool false)) rfl rfl rfl SZ_4 (ones (by rfl)) q85).trans (by rw [hw85]; rfl)) (by kernel_rfl) held_nil ?_
          exact wpD_done (by kernel_rfl) ⟨(), ⟨e2, e3, e4, e5, trivial⟩, h⟩
      · replace h := h.2 hc75
        refine wpD_pass 9 rfl (by kernel_rfl) (by kernel_rfl) (by kernel_rfl) (wantN rfl rfl rfl hc75) rfl rfl ?_
        refine wpD_pass 10 rfl (by kernel_rfl) (by kernel_rfl) (by kernel_rfl) (wantN rfl rfl rfl hc75) rfl rfl ?_
        refine wpD_take (v := (Value.bool false)) 11 (fun _ => True) rfl (by kernel_rfl) (by kernel_rfl) (by kernel_rfl) rfl rfl rfl trivial (fun w _ => (x_pickF (v := (Value.bool false)) rfl rfl hc75 rfl)) ?_
        refine wpD_take (v := (Value.pointer (some ((Addr.mk b9 0 none).add 7)))) 12 (fun _ => True) rfl (by kernel_rfl) (by kernel_rfl) (by kernel_rfl) rfl rfl rfl trivial (fun w _ => (x_fieldAddr rfl e2 FA_24_7)) ?_
        obtain ⟨x86, q86, h⟩ := h
        refine wpD_take (v := (Value.bool x86)) 13 (fun w => w.cell? ((Addr.mk b9 0 none).add 7) = some (Value.bool x86)) rfl (by kernel_rfl) (by kernel_rfl) (by kernel_rfl) rfl rfl rfl q86 (fun w q86 => (x_load1 rfl rfl SH_4 q86)) ?_
        refine wpD_take (v := (Value.bool x86)) 14 (fun _ => True) rfl (by kernel_rfl) (by kernel_rfl) (by kernel_rfl) rfl rfl rfl trivial (fun w _ => (x_move (v := (Value.bool x86)) rfl rfl)) ?_
        rcases Bool.eq_false_or_eq_true (x86) with hc87 | hc87
        · replace h := h.1 hc87
          refine wpD_take (v := (Value.pointer (some ((Addr.mk b10 0 none).add 7)))) 15 (fun _ => True) rfl (by kernel_rfl) (by kernel_rfl) (by kernel_rfl) (wantG rfl rfl rfl hc87) rfl rfl trivial (fun w _ => (x_fieldAddr rfl e3 FA_24_7)) ?_
          obtain ⟨x88, q88, h⟩ := h
          refine wpD_take (v := (Value.bool x88)) 16 (fun w => w.cell? ((Addr.mk b10 0 none).add 7) = some (Value.bool x88)) rfl (by kernel_rfl) (by kernel_rfl) (by kernel_rfl) (wantG rfl rfl rfl hc87) rfl rfl q88 (fun w q88 => (x_load1 rfl rfl SH_4 q88)) ?_
          refine wpD_take (v := (Value.bool x88)) 17 (fun _ => True) rfl (by kernel_rfl) (by kernel_rfl) (by kernel_rfl) rfl rfl rfl trivial (fun w _ => (x_pickT (v := (Value.bool x88)) rfl rfl hc87 rfl)) ?_
          refine wpD_take (v := (Value.pointer (some ((Addr.mk b34 0 none).add 4)))) 18 (fun _ => True) rfl (by kernel_rfl) (by kernel_rfl) (by kernel_rfl) rfl rfl rfl trivial (fun w _ => (x_fieldAddr rfl e5 FA_24_4)) ?_
          refine wpD_all (rs := [19]) (by kernel_rfl) (by simp) (allD_cons ?_ allD_nil)
          obtain ⟨q89, h⟩ := h
          obtain ⟨w30, hw89⟩ : ∃ u, u = setAll w11 ((Addr.mk b34 0 none).add 4) [(Value.bool false)] 0 := ⟨_, rfl⟩
          replace h := h w30 hw89
          obtain ⟨o16, h⟩ := h
          obtain ⟨o13, h⟩ := h
          obtain ⟨o7, h⟩ := h
          refine stepD_skpL (L' := [(17, fun _ => True), (16, fun w => w.cell? ((Addr.mk b10 0 none).add 7) = some (Value.bool x88)), (15, fun _ => True), (13, fun w => w.cell? ((Addr.mk b9 0 none).add 7) = some (Value.bool x86)), (12, fun _ => True), (11, fun _ => True), (10, fun _ => True), (9, fun _ => True), (8, fun _ => True), (7, fun w => w.cell? ((Addr.mk b9 0 none).add 6) = some (Value.bool x74)), (6, fun _ => True)]) (w' := w30) rfl rfl rfl ((x_store (v := (Value.bool false)) rfl rfl rfl SZ_4 (ones (by rfl)) q89).trans (by rw [hw89]; rfl)) (by kernel_rfl) (held_cons trivial (held_cons o16 (held_cons trivial (held_cons o13 (held_cons trivial (held_cons trivial (held_cons trivial (held_cons trivial (held_cons trivial (held_cons o7 (held_cons trivial held_nil))))))))))) ?_
          refine wpD_take (v := (Value.pointer (some ((Addr.mk b34 0 none).add 6)))) 20 (fun _ => True) rfl (by kernel_rfl) (by kernel_rfl) (by kernel_rfl) rfl rfl rfl trivial (fun w _ => (x_fieldAddr rfl e5 FA_24_6)) ?_
          refine wpD_all (rs := [21]) (by kernel_rfl) (by simp) (allD_cons ?_ allD_nil)
          obtain ⟨q90, h⟩ := h
          obtain ⟨w31, hw90⟩ : ∃ u, u = setAll w30 ((Addr.mk b34 0 none).add 6) [(Value.bool false)] 0 := ⟨_, rfl⟩
          replace h := h w31 hw90
          obtain ⟨o16, h⟩ := h
          obtain ⟨o13, h⟩ := h
          refine stepD_skpL (L' := [(17, fun _ => True), (16, fun w => w.cell? ((Addr.mk b10 0 none).add 7) = some (Value.bool x88)), (15, fun _ => True), (13, fun w => w.cell? ((Addr.mk b9 0 none).add 7) = some (Value.bool x86)), (12, fun _ => True)]) (w' := w31) rfl rfl rfl ((x_store (v := (Value.bool false)) rfl rfl rfl SZ_4 (ones (by rfl)) q90).trans (by rw [hw90]; rfl)) (by kernel_rfl) (held_cons trivial (held_cons o16 (held_cons trivial (held_cons o13 (held_cons trivial held_nil))))) ?_
          refine wpD_take (v := (Value.pointer (some ((Addr.mk b34 0 none).add 7)))) 22 (fun _ => True) rfl (by kernel_rfl) (by kernel_rfl) (by kernel_rfl) rfl rfl rfl trivial (fun w _ => (x_fieldAddr rfl e5 FA_24_7)) ?_
          refine wpD_all (rs := [23]) (by kernel_rfl) (by simp) (allD_cons ?_ allD_nil)
          obtain ⟨q91, h⟩ := h
          obtain ⟨w32, hw91⟩ : ∃ u, u = setAll w31 ((Addr.mk b34 0 none).add 7) [(Value.bool x88)] 0 := ⟨_, rfl⟩
          replace h := h w32 hw91
          refine stepD_skpL (L' := []) (w' := w32) rfl rfl rfl ((x_store (v := (Value.bool x88)) rfl rfl rfl SZ_4 (ones (by rfl)) q91).trans (by rw [hw91]; rfl)) (by kernel_rfl) held_nil ?_
          exact wpD_done (by kernel_rfl) ⟨(), ⟨e2, e3, e4, e5, trivial⟩, h⟩
        · replace h := h.2 hc87
          refine wpD_pass 15 rfl (by kernel_rfl) (by kernel_rfl) (by kernel_rfl) (wantN rfl rfl rfl hc87) rfl rfl ?_
          refine wpD_pass 16 rfl (by kernel_rfl) (by kernel_rfl) (by kernel_rfl) (wantN rfl rfl rfl hc87) rfl rfl ?_
          refine wpD_take (v := (Value.bool false)) 17 (fun _ => True) rfl (by kernel_rfl) (by kernel_rfl) (by kernel_rfl) rfl rfl rfl trivial (fun w _ => (x_pickF (v := (Value.bool false)) rfl rfl hc87 rfl)) ?_
          refine wpD_take (v := (Value.pointer (some ((Addr.mk b34 0 none).add 4)))) 18 (fun _ => True) rfl (by kernel_rfl) (by kernel_rfl) (by kernel_rfl) rfl rfl rfl trivial (fun w _ => (x_fieldAddr rfl e5 FA_24_4)) ?_
          refine wpD_all (rs := [19]) (by kernel_rfl) (by simp) (allD_cons ?_ allD_nil)
          obtain ⟨q92, h⟩ := h
          obtain ⟨w33, hw92⟩ : ∃ u, u = setAll w11 ((Addr.mk b34 0 none).add 4) [(Value.bool false)] 0 := ⟨_, rfl⟩
          replace h := h w33 hw92
          obtain ⟨o13, h⟩ := h
          obtain ⟨o7, h⟩ := h
          refine stepD_skpL (L' := [(17, fun _ => True), (16, fun _ => True), (15, fun _ => True), (13, fun w => w.cell? ((Addr.mk b9 0 none).add 7) = some (Value.bool x86)), (12, fun _ => True), (11, fun _ => True), (10, fun _ => True), (9, fun _ => True), (8, fun _ => True), (7, fun w => w.cell? ((Addr.mk b9 0 none).add 6) = some (Value.bool x74)), (6, fun _ => True)]) (w' := w33) rfl rfl rfl ((x_store (v := (Value.bool false)) rfl rfl rfl SZ_4 (ones (by rfl)) q92).trans (by rw [hw92]; rfl)) (by kernel_rfl) (held_cons trivial (held_cons trivial (held_cons trivial (held_cons o13 (held_cons trivial (held_cons trivial (held_cons trivial (held_cons trivial (held_cons trivial (held_cons o7 (held_cons trivial held_nil))))))))))) ?_
          refine wpD_take (v := (Value.pointer (some ((Addr.mk b34 0 none).add 6)))) 20 (fun _ => True) rfl (by kernel_rfl) (by kernel_rfl) (by kernel_rfl) rfl rfl rfl trivial (fun w _ => (x_fieldAddr rfl e5 FA_24_6)) ?_
          refine wpD_all (rs := [21]) (by kernel_rfl) (by simp) (allD_cons ?_ allD_nil)
          obtain ⟨q93, h⟩ := h
          obtain ⟨w34, hw93⟩ : ∃ u, u = setAll w33 ((Addr.mk b34 0 none).add 6) [(Value.bool false)] 0 := ⟨_, rfl⟩
          replace h := h w34 hw93
          obtain ⟨o13, h⟩ := h
          refine stepD_skpL (L' := [(17, fun _ => True), (16, fun _ => True), (15, fun _ => True), (13, fun w => w.cell? ((Addr.mk b9 0 none).add 7) = some (Value.bool x86)), (12, fun _ => True)]) (w' := w34) rfl rfl rfl ((x_store (v := (Value.bool false)) rfl rfl rfl SZ_4 (ones (by rfl)) q93).trans (by rw [hw93]; rfl)) (by kernel_rfl) (held_cons trivial (held_cons trivial (held_cons trivial (held_cons o13 (held_cons trivial held_nil))))) ?_
          refine wpD_take (v := (Value.pointer (some ((Addr.mk b34 0 none).add 7)))) 22 (fun _ => True) rfl (by kernel_rfl) (by kernel_rfl) (by kernel_rfl) rfl rfl rfl trivial (fun w _ => (x_fieldAddr rfl e5 FA_24_7)) ?_
          refine wpD_all (rs := [23]) (by kernel_rfl) (by simp) (allD_cons ?_ allD_nil)
          obtain ⟨q94, h⟩ := h
          obtain ⟨w35, hw94⟩ : ∃ u, u = setAll w34 ((Addr.mk b34 0 none).add 7) [(Value.bool false)] 0 := ⟨_, rfl⟩
          replace h := h w35 hw94
          refine stepD_skpL (L' := []) (w' := w35) rfl rfl rfl ((x_store (v := (Value.bool false)) rfl rfl rfl SZ_4 (ones (by rfl)) q94).trans (by rw [hw94]; rfl)) (by kernel_rfl) held_nil ?_
          exact wpD_done (by kernel_rfl) ⟨(), ⟨e2, e3, e4, e5, trivial⟩, h⟩
  clear h
  rintro l95 ρ w36 ⟨e2, e3, e4, e5, -⟩ h
  replace h := hk l95 w36 h
  clear hk
  refine wpC_seq ?_
  obtain ⟨J97, h, hk⟩ := h
  refine wpC_drawJ (by kernel_rfl) (fun (x : Unit) ρ => ρ 2 = (Value.pointer (some (Addr.mk b9 0 none))) ∧ ρ 3 = (Value.pointer (some (Addr.mk b10 0 none))) ∧ ρ 4 = (Value.pointer (some (Addr.mk b11 0 none))) ∧ ρ 5 = (Value.pointer (some (Addr.mk b34 0 none))) ∧ True) J97 ?_ ?_
  · clear hk
    unfold tk at h
    generalize w36.drew = w37 at h ⊢
    refine wpD_take (v := (Value.pointer (some ((Addr.mk b9 0 none).add 8)))) 0 (fun _ => True) rfl (by kernel_rfl) (by kernel_rfl) (by kernel_rfl) rfl rfl rfl trivial (fun w _ => (x_fieldAddr rfl e2 FA_24_8)) ?_
    obtain ⟨x98, q98, h⟩ := h
    refine wpD_take (v := (Value.int .i64 x98)) 1 (fun w => w.cell? ((Addr.mk b9 0 none).add 8) = some (Value.int .i64 x98)) rfl (by kernel_rfl) (by kernel_rfl) (by kernel_rfl) rfl rfl rfl q98 (fun w q98 => (x_load1 rfl rfl SH_3 q98)) ?_
    refine wpD_take (v := (Value.pointer (some ((Addr.mk b10 0 none).add 8)))) 2 (fun _ => True) rfl (by kernel_rfl) (by kernel_rfl) (by kernel_rfl) rfl rfl rfl trivial (fun w _ => (x_fieldAddr rfl e3 FA_24_8)) ?_
    obtain ⟨x99, q99, h⟩ := h
    refine wpD_take (v := (Value.int .i64 x99)) 3 (fun w => w.cell? ((Addr.mk b10 0 none).add 8) = some (Value.int .i64 x99)) rfl (by kernel_rfl) (by kernel_rfl) (by kernel_rfl) rfl rfl rfl q99 (fun w q99 => (x_load1 rfl rfl SH_3 q99)) ?_
    refine wpD_take (v := (Value.int .i64 (min x98 x99))) 4 (fun _ => True) rfl (by kernel_rfl) (by kernel_rfl) (by kernel_rfl) rfl rfl rfl trivial (fun w _ => (x_min rfl rfl rfl)) ?_
    refine wpD_take (v := (Value.pointer (some ((Addr.mk b9 0 none).add 9)))) 5 (fun _ => True) rfl (by kernel_rfl) (by kernel_rfl) (by kernel_rfl) rfl rfl rfl trivial (fun w _ => (x_fieldAddr rfl e2 FA_24_9)) ?_
    obtain ⟨x100, q100, h⟩ := h
    refine wpD_take (v := (Value.int .i64 x100)) 6 (fun w => w.cell? ((Addr.mk b9 0 none).add 9) = some (Value.int .i64 x100)) rfl (by kernel_rfl) (by kernel_rfl) (by kernel_rfl) rfl rfl rfl q100 (fun w q100 => (x_load1 rfl rfl SH_3 q100)) ?_
    refine wpD_take (v := (Value.pointer (some ((Addr.mk b10 0 none).add 9)))) 7 (fun _ => True) rfl (by kernel_rfl) (by kernel_rfl) (by kernel_rfl) rfl rfl rfl trivial (fun w _ => (x_fieldAddr rfl e3 FA_24_9)) ?_
    obtain ⟨x101, q101, h⟩ := h
    refine wpD_take (v := (Value.int .i64 x101)) 8 (fun w => w.cell? ((Addr.mk b10 0 none).add 9) = some (Value.int .i64 x101)) rfl (by kernel_rfl) (by kernel_rfl) (by kernel_rfl) rfl rfl rfl q101 (fun w q101 => (x_load1 rfl rfl SH_3 q101)) ?_
    refine wpD_take (v := (Value.int .i64 (min x100 x101))) 9 (fun _ => True) rfl (by kernel_rfl) (by kernel_rfl) (by kernel_rfl) rfl rfl rfl trivial (fun w _ => (x_min rfl rfl rfl)) ?_
    refine wpD_take (v := (Value.pointer (some ((Addr.mk b9 0 none).add 16)))) 10 (fun _ => True) rfl (by kernel_rfl) (by kernel_rfl) (by kernel_rfl) rfl rfl rfl trivial (fun w _ => (x_fieldAddr rfl e2 FA_24_16)) ?_
    obtain ⟨x102, q102, h⟩ := h
    refine wpD_take (v := (Value.int .i64 x102)) 11 (fun w => w.cell? ((Addr.mk b9 0 none).add 16) = some (Value.int .i64 x102)) rfl (by kernel_rfl) (by kernel_rfl) (by kernel_rfl) rfl rfl rfl q102 (fun w q102 => (x_load1 rfl rfl SH_3 q102)) ?_
    refine wpD_take (v := (Value.pointer (some ((Addr.mk b10 0 none).add 16)))) 12 (fun _ => True) rfl (by kernel_rfl) (by kernel_rfl) (by kernel_rfl) rfl rfl rfl trivial (fun w _ => (x_fieldAddr rfl e3 FA_24_16)) ?_
    obtain ⟨x103, q103, h⟩ := h
    refine wpD_take (v := (Value.int .i64 x103)) 13 (fun w => w.cell? ((Addr.mk b10 0 none).add 16) = some (Value.int .i64 x103)) rfl (by kernel_rfl) (by kernel_rfl) (by kernel_rfl) rfl rfl rfl q103 (fun w q103 => (x_load1 rfl rfl SH_3 q103)) ?_
    refine wpD_take (v := (Value.int .i64 (min x102 x103))) 14 (fun _ => True) rfl (by kernel_rfl) (by kernel_rfl) (by kernel_rfl) rfl rfl rfl trivial (fun w _ => (x_min rfl rfl rfl)) ?_
    refine wpD_take (v := (Value.pointer (some ((Addr.mk b34 0 none).add 8)))) 15 (fun _ => True) rfl (by kernel_rfl) (by kernel_rfl) (by kernel_rfl) rfl rfl rfl trivial (fun w _ => (x_fieldAddr rfl e5 FA_24_8)) ?_
    refine wpD_all (rs := [16]) (by kernel_rfl) (by simp) (allD_cons ?_ allD_nil)
    obtain ⟨q104, h⟩ := h
    obtain ⟨w38, hw104⟩ : ∃ u, u = setAll w37 ((Addr.mk b34 0 none).add 8) [(Value.int .i64 (min x98 x99))] 0 := ⟨_, rfl⟩
    replace h := h w38 hw104
    obtain ⟨o13, h⟩ := h
    obtain ⟨o11, h⟩ := h
    obtain ⟨o8, h⟩ := h
    obtain ⟨o6, h⟩ := h
    refine stepD_skpL (L' := [(14, fun _ => True), (13, fun w => w.cell? ((Addr.mk b10 0 none).add 16) = some (Value.int .i64 x103)), (12, fun _ => True), (11, fun w => w.cell? ((Addr.mk b9 0 none).add 16) = some (Value.int .i64 x102)), (10, fun _ => True), (9, fun _ => True), (8, fun w => w.cell? ((Addr.mk b10 0 none).add 9) = some (Value.int .i64 x101)), (7, fun _ => True), (6, fun w => w.cell? ((Addr.mk b9 0 none).add 9) = some (Value.int .i64 x100)), (5, fun _ => True)]) (w' := w38) rfl rfl rfl ((x_store (v := (Value.int .i64 (min x98 x99))) rfl rfl rfl SZ_3 (ones (by rfl)) q104).trans (by rw [hw104]; rfl)) (by kernel_rfl) (held_cons trivial (held_cons o13 (held_cons trivial (held_cons o11 (held_cons trivial (held_cons trivial (held_cons o8 (held_cons trivial (held_cons o6 (held_cons trivial held_nil)))))))))) ?_
    refine wpD_take (v := (Value.pointer (some ((Addr.mk b34 0 none).add 9)))) 17 (fun _ => True) rfl (by kernel_rfl) (by kernel_rfl) (by kernel_rfl) rfl rfl rfl trivial (fun w _ => (x_fieldAddr rfl e5 FA_24_9)) ?_
    refine wpD_all (rs := [18]) (by kernel_rfl) (by simp) (allD_cons ?_ allD_nil)
    obtain ⟨q105, h⟩ := h
    obtain ⟨w39, hw105⟩ : ∃ u, u = setAll w38 ((Addr.mk b34 0 none).add 9) [(Value.int .i64 (min x100 x101))] 0 := ⟨_, rfl⟩
    replace h := h w39 hw105
    obtain ⟨o13, h⟩ := h
    obtain ⟨o11, h⟩ := h
    refine stepD_skpL (L' := [(14, fun _ => True), (13, fun w => w.cell? ((Addr.mk b10 0 none).add 16) = some (Value.int .i64 x103)), (12, fun _ => True), (11, fun w => w.cell? ((Addr.mk b9 0 none).add 16) = some (Value.int .i64 x102)), (10, fun _ => True)]) (w' := w39) rfl rfl rfl ((x_store (v := (Value.int .i64 (min x100 x101))) rfl rfl rfl SZ_3 (ones (by rfl)) q105).trans (by rw [hw105]; rfl)) (by kernel_rfl) (held_cons trivial (held_cons o13 (held_cons trivial (held_cons o11 (held_cons trivial held_nil))))) ?_
    refine wpD_take (v := (Value.pointer (some ((Addr.mk b34 0 none).add 16)))) 19 (fun _ => True) rfl (by kernel_rfl) (by kernel_rfl) (by kernel_rfl) rfl rfl rfl trivial (fun w _ => (x_fieldAddr rfl e5 FA_24_16)) ?_
    refine wpD_all (rs := [20]) (by kernel_rfl) (by simp) (allD_cons ?_ allD_nil)
    obtain ⟨q106, h⟩ := h
    obtain ⟨w40, hw106⟩ : ∃ u, u = setAll w39 ((Addr.mk b34 0 none).add 16) [(Value.int .i64 (min x102 x103))] 0 := ⟨_, rfl⟩
    replace h := h w40 hw106
    refine stepD_skpL (L' := []) (w' := w40) rfl rfl rfl ((x_store (v := (Value.int .i64 (min x102 x103))) rfl rfl rfl SZ_3 (ones (by rfl)) q106).trans (by rw [hw106]; rfl)) (by kernel_rfl) held_nil ?_
    exact wpD_done (by kernel_rfl) ⟨(), ⟨e2, e3, e4, e5, trivial⟩, h⟩
  clear h
  rintro l107 ρ w41 ⟨e2, e3, e4, e5, -⟩ h
  replace h := hk l107 w41 h
  clear hk
  refine wpC_seq ?_
  obtain ⟨J109, h, hk⟩ := h
  refine wpC_drawJ (by kernel_rfl) (fun (x : Unit) ρ => ρ 2 = (Value.pointer (some (Addr.mk b9 0 none))) ∧ ρ 3 = (Value.pointer (some (Addr.mk b10 0 none))) ∧ ρ 4 = (Value.pointer (some (Addr.mk b11 0 none))) ∧ ρ 5 = (Value.pointer (some (Addr.mk b34 0 none))) ∧ True) J109 ?_ ?_
  · clear hk
    unfold tk at h
    generalize w41.drew = w42 at h ⊢
    refine wpD_take (v := (Value.pointer (some ((Addr.mk b9 0 none).add 10)))) 0 (fun _ => True) rfl (by kernel_rfl) (by kernel_rfl) (by kernel_rfl) rfl rfl rfl trivial (fun w _ => (x_fieldAddr rfl e2 FA_24_10)) ?_
    obtain ⟨x110, q110, h⟩ := h
    refine wpD_take (v := (Value.int .i64 x110)) 1 (fun w => w.cell? ((Addr.mk b9 0 none).add 10) = some (Value.int .i64 x110)) rfl (by kernel_rfl) (by kernel_rfl) (by kernel_rfl) rfl rfl rfl q110 (fun w q110 => (x_load1 rfl rfl SH_3 q110)) ?_
    refine wpD_take (v := (Value.pointer (some ((Addr.mk b10 0 none).add 10)))) 2 (fun _ => True) rfl (by kernel_rfl) (by kernel_rfl) (by kernel_rfl) rfl rfl rfl trivial (fun w _ => (x_fieldAddr rfl e3 FA_24_10)) ?_
    obtain ⟨x111, q111, h⟩ := h
    refine wpD_take (v := (Value.int .i64 x111)) 3 (fun w => w.cell? ((Addr.mk b10 0 none).add 10) = some (Value.int .i64 x111)) rfl (by kernel_rfl) (by kernel_rfl) (by kernel_rfl) rfl rfl rfl q111 (fun w q111 => (x_load1 rfl rfl SH_3 q111)) ?_
    refine wpD_take (v := (Value.int .i64 (min x110 x111))) 4 (fun _ => True) rfl (by kernel_rfl) (by kernel_rfl) (by kernel_rfl) rfl rfl rfl trivial (fun w _ => (x_min rfl rfl rfl)) ?_
    refine wpD_take (v := (Value.pointer (some ((Addr.mk b9 0 none).add 11)))) 5 (fun _ => True) rfl (by kernel_rfl) (by kernel_rfl) (by kernel_rfl) rfl rfl rfl trivial (fun w _ => (x_fieldAddr rfl e2 FA_24_11)) ?_
    obtain ⟨x112, q112, h⟩ := h
    refine wpD_take (v := (Value.int .i64 x112)) 6 (fun w => w.cell? ((Addr.mk b9 0 none).add 11) = some (Value.int .i64 x112)) rfl (by kernel_rfl) (by kernel_rfl) (by kernel_rfl) rfl rfl rfl q112 (fun w q112 => (x_load1 rfl rfl SH_3 q112)) ?_
    refine wpD_take (v := (Value.pointer (some ((Addr.mk b10 0 none).add 11)))) 7 (fun _ => True) rfl (by kernel_rfl) (by kernel_rfl) (by kernel_rfl) rfl rfl rfl trivial (fun w _ => (x_fieldAddr rfl e3 FA_24_11)) ?_
    obtain ⟨x113, q113, h⟩ := h
    refine wpD_take (v := (Value.int .i64 x113)) 8 (fun w => w.cell? ((Addr.mk b10 0 none).add 11) = some (Value.int .i64 x113)) rfl (by kernel_rfl) (by kernel_rfl) (by kernel_rfl) rfl rfl rfl q113 (fun w q113 => (x_load1 rfl rfl SH_3 q113)) ?_
    refine wpD_take (v := (Value.int .i64 (min x112 x113))) 9 (fun _ => True) rfl (by kernel_rfl) (by kernel_rfl) (by kernel_rfl) rfl rfl rfl trivial (fun w _ => (x_min rfl rfl rfl)) ?_
    refine wpD_take (v := (Value.pointer (some ((Addr.mk b34 0 none).add 10)))) 10 (fun _ => True) rfl (by kernel_rfl) (by kernel_rfl) (by kernel_rfl) rfl rfl rfl trivial (fun w _ => (x_fieldAddr rfl e5 FA_24_10)) ?_
    refine wpD_all (rs := [11]) (by kernel_rfl) (by simp) (allD_cons ?_ allD_nil)
    obtain ⟨q114, h⟩ := h
    obtain ⟨w43, hw114⟩ : ∃ u, u = setAll w42 ((Addr.mk b34 0 none).add 10) [(Value.int .i64 (min x110 x111))] 0 := ⟨_, rfl⟩
    replace h := h w43 hw114
    obtain ⟨o8, h⟩ := h
    obtain ⟨o6, h⟩ := h
    refine stepD_skpL (L' := [(9, fun _ => True), (8, fun w => w.cell? ((Addr.mk b10 0 none).add 11) = some (Value.int .i64 x113)), (7, fun _ => True), (6, fun w => w.cell? ((Addr.mk b9 0 none).add 11) = some (Value.int .i64 x112)), (5, fun _ => True)]) (w' := w43) rfl rfl rfl ((x_store (v := (Value.int .i64 (min x110 x111))) rfl rfl rfl SZ_3 (ones (by rfl)) q114).trans (by rw [hw114]; rfl)) (by kernel_rfl) (held_cons trivial (held_cons o8 (held_cons trivial (held_cons o6 (held_cons trivial held_nil))))) ?_
    refine wpD_take (v := (Value.pointer (some ((Addr.mk b34 0 none).add 11)))) 12 (fun _ => True) rfl (by kernel_rfl) (by kernel_rfl) (by kernel_rfl) rfl rfl rfl trivial (fun w _ => (x_fieldAddr rfl e5 FA_24_11)) ?_
    refine wpD_all (rs := [13]) (by kernel_rfl) (by simp) (allD_cons ?_ allD_nil)
    obtain ⟨q115, h⟩ := h
    obtain ⟨w44, hw115⟩ : ∃ u, u = setAll w43 ((Addr.mk b34 0 none).add 11) [(Value.int .i64 (min x112 x113))] 0 := ⟨_, rfl⟩
    replace h := h w44 hw115
    refine stepD_skpL (L' := []) (w' := w44) rfl rfl rfl ((x_store (v := (Value.int .i64 (min x112 x113))) rfl rfl rfl SZ_3 (ones (by rfl)) q115).trans (by rw [hw115]; rfl)) (by kernel_rfl) held_nil ?_
    exact wpD_done (by kernel_rfl) ⟨(), ⟨e2, e3, e4, e5, trivial⟩, h⟩
  clear h
  rintro l116 ρ w45 ⟨e2, e3, e4, e5, -⟩ h
  replace h := hk l116 w45 h
  clear hk
  refine wpC_seq ?_
  refine wpC_region ?_
  refine wpR_val (v := (Value.pointer (some ((Addr.mk b34 0 none).add 12)))) (w' := w45) rfl rfl rfl (x_fieldAddr rfl e5 FA_24_12) ?_
  obtain ⟨q117, h⟩ := h
  obtain ⟨w46, hw117⟩ : ∃ u, u = setAll w45 ((Addr.mk b34 0 none).add 12) [(Sl.v Sl.nil)] 0 := ⟨_, rfl⟩
  replace h := h w46 hw117
  refine wpR_skp (w' := w46) rfl rfl ((x_store (v := (Sl.v Sl.nil)) rfl rfl rfl SZ_22 (ones (by rfl)) q117).trans (by rw [hw117]; rfl)) ?_
  refine wpR_nil ?_
  refine wpC_seq ?_
  refine wpC_seq ?_
  refine wpC_cut (fun ρ => ρ 2 = (Value.pointer (some (Addr.mk b9 0 none))) ∧ ρ 3 = (Value.pointer (some (Addr.mk b10 0 none))) ∧ ρ 4 = (Value.pointer (some (Addr.mk b11 0 none))) ∧ ρ 5 = (Value.pointer (some (Addr.mk b34 0 none))) ∧ True) ⟨e2, e3, e4, e5, trivial⟩ ?_
  rintro ρ ⟨e2, e3, e4, e5, -⟩
  refine wpC_region ?_
  refine wpR_val (v := (Value.pointer (some ((Addr.mk b9 0 none).add 12)))) (w' := w46) rfl rfl rfl (x_fieldAddr rfl e2 FA_24_12) ?_
  obtain ⟨x118, q118, h⟩ := h
  refine wpR_val (v := (Sl.v x118)) (w' := w46) rfl rfl rfl (x_load1 rfl rfl SH_22 q118) ?_
  refine wpR_val (v := (Value.int .i64 (x118.len : Int))) (w' := w46) rfl rfl rfl (x_lenS (s := x118) rfl rfl isSliceT_22) ?_
  refine wpR_val (v := (Value.int .i64 0)) (w' := w46) rfl rfl rfl (x_move (v := (Value.int .i64 0)) rfl rfl) ?_
  refine wpR_nil ?_
  refine wpC_block ?_
  obtain ⟨I119, μ119, hI119, hr119⟩ := h
  refine wpC_loop (fun (x : Int) ρ => ρ 82 = (Value.int .i64 x) ∧ ρ 2 = (Value.pointer (some (Addr.mk b9 0 none))) ∧ ρ 3 = (Value.pointer (some (Addr.mk b10 0 none))) ∧ ρ 4 = (Value.pointer (some (Addr.mk b11 0 none))) ∧ ρ 5 = (Value.pointer (some (Addr.mk b34 0 none))) ∧ ρ 80 = (Sl.v x118) ∧ ρ 81 = (Value.int .i64 (x118.len : Int)) ∧ True) I119 μ119 0 ⟨rfl, e2, e3, e4, e5, rfl, rfl, trivial⟩ hI119 ?_
  rintro l119 ρ w47 ⟨e82, e2, e3, e4, e5, e80, e81, -⟩ h
  replace h := hr119 l119 w47 h
  clear hr119 hI119
  refine wpC_seq ?_
  refine wpC_region ?_
  refine wpR_val (v := (Value.bool (decide (l119 < (x118.len : Int))))) (w' := w47) rfl rfl rfl (x_lss rfl e82 e81) ?_
  refine wpR_nil ?_
  refine wpC_seq ?_
  refine wpC_cond (b := decide (l119 < (x118.len : Int))) rfl (fun hc120 => ?_) (fun hc120 => ?_)
  · replace h := h.1 hc120
    refine wpC_skip ?_
    obtain ⟨J121, h, hk⟩ := h
    refine wpC_seqJ (fun (x : Unit) ρ => ρ 2 = (Value.pointer (some (Addr.mk b9 0 none))) ∧ ρ 3 = (Value.pointer (some (Addr.mk b10 0 none))) ∧ ρ 4 = (Value.pointer (some (Addr.mk b11 0 none))) ∧ ρ 5 = (Value.pointer (some (Addr.mk b34 0 none))) ∧ ρ 80 = (Sl.v x118) ∧ ρ 81 = (Value.int .i64 (x118.len : Int)) ∧ ρ 82 = (Value.int .i64 l119) ∧ True) J121 ?_ ?_
    · clear hk
      refine wpC_block ?_
      refine wpC_seq ?_
      refine wpC_cut (fun ρ => ρ 2 = (Value.pointer (some (Addr.mk b9 0 none))) ∧ ρ 3 = (Value.pointer (some (Addr.mk b10 0 none))) ∧ ρ 4 = (Value.pointer (some (Addr.mk b11 0 none))) ∧ ρ 5 = (Value.pointer (some (Addr.mk b34 0 none))) ∧ ρ 80 = (Sl.v x118) ∧ ρ 81 = (Value.int .i64 (x118.len : Int)) ∧ ρ 82 = (Value.int .i64 l119) ∧ True) ⟨e2, e3, e4, e5, e80, e81, e82, trivial⟩ ?_
      rintro ρ ⟨e2, e3, e4, e5, e80, e81, e82, -⟩
      refine wpC_region ?_
      obtain ⟨q123, z123, r123, h⟩ := h
      generalize hp123 : z123.add ((l119 : Int).toNat * 1) = p123 at h
      refine wpR_val (v := (Value.pointer (some p123))) (w' := w47) rfl rfl rfl ((x_indexAddr (s := x118) rfl e80 e82 ES_22 q123 r123).trans (by rw [hp123])) ?_
      obtain ⟨x124, q124, h⟩ := h
      refine wpR_val (v := (Value.string x124)) (w' := w47) rfl rfl rfl (x_load1 rfl rfl SH_9 q124) ?_
      refine wpR_val (v := (Value.string x124)) (w' := w47) rfl rfl rfl (x_assign (v := (Value.string x124)) rfl rfl) ?_
      refine wpR_nil ?_
      refine wpC_seq ?_
      refine wpC_cut (fun ρ => ρ 2 = (Value.pointer (some (Addr.mk b9 0 none))) ∧ ρ 3 = (Value.pointer (some (Addr.mk b10 0 none))) ∧ ρ 4 = (Value.pointer (some (Addr.mk b11 0 none))) ∧ ρ 5 = (Value.pointer (some (Addr.mk b34 0 none))) ∧ ρ 7 = (Value.string x124) ∧ ρ 80 = (Sl.v x118) ∧ ρ 81 = (Value.int .i64 (x118.len : Int)) ∧ ρ 82 = (Value.int .i64 l119) ∧ True) ⟨e2, e3, e4, e5, rfl, e80, e81, e82, trivial⟩ ?_
      rintro ρ ⟨e2, e3, e4, e5, e7, e80, e81, e82, -⟩
      refine wpC_region ?_
      refine wpR_val (v := (Value.pointer (some ((Addr.mk b10 0 none).add 12)))) (w' := w47) rfl rfl rfl (x_fieldAddr rfl e3 FA_24_12) ?_
      obtain ⟨x125, q125, h⟩ := h
      refine wpR_val (v := (Sl.v x125)) (w' := w47) rfl rfl rfl (x_load1 rfl rfl SH_22 q125) ?_
      refine wpR_val (v := (Value.string x124)) (w' := w47) rfl rfl rfl (x_move (v := (Value.string x124)) rfl e7) ?_
      refine wpR_enter rfl rfl rfl (x_call (vs := [(Sl.v x125), (Value.string x124)]) rfl rfl (mapl_cons rfl (mapl_cons rfl mapl_nil)) Try.func42 NN_42 NB_42) (Calls.mono h ?_)
      rintro _ w49 ⟨r126, rfl, h⟩
      refine ⟨_, rfl, ?_⟩
      refine wpR_nil ?_
      refine wpC_cond (b := r126) rfl (fun hc127 => ?_) (fun hc127 => ?_)
      · replace h := h.1 hc127
        refine wpC_cut (fun ρ => ρ 2 = (Value.pointer (some (Addr.mk b9 0 none))) ∧ ρ 3 = (Value.pointer (some (Addr.mk b10 0 none))) ∧ ρ 4 = (Value.pointer (some (Addr.mk b11 0 none))) ∧ ρ 5 = (Value.pointer (some (Addr.mk b34 0 none))) ∧ ρ 7 = (Value.string x124) ∧ ρ 80 = (Sl.v x118) ∧ ρ 81 = (Value.int .i64 (x118.len : Int)) ∧ ρ 82 = (Value.int .i64 l119) ∧ True) ⟨e2, e3, e4, e5, e7, e80, e81, e82, trivial⟩ ?_
        rintro ρ ⟨e2, e3, e4, e5, e7, e80, e81, e82, -⟩
        refine wpC_region ?_
        refine wpR_val (v := (Value.pointer (some ((Addr.mk b34 0 none).add 12)))) (w' := w49) rfl rfl rfl (x_fieldAddr rfl e5 FA_24_12) ?_
        obtain ⟨x128, q128, h⟩ := h
        refine wpR_val (v := (Sl.v x128)) (w' := w49) rfl rfl rfl (x_load1 rfl rfl SH_22 q128) ?_
        refine wpR_val (v := (Value.string x124)) (w' := w49) rfl rfl rfl (x_move (v := (Value.string x124)) rfl e7) ?_
        obtain ⟨b129, hb129⟩ : ∃ u, u = w49.heap.size := ⟨_, rfl⟩
        obtain ⟨w50, hw129⟩ : ∃ u, u = w49.alloc (.cells #[(Value.string x124)] 9) := ⟨_, rfl⟩
        replace h := h b129 w50 hb129 hw129
        refine wpR_val (v := (Sl.v (⟨some ⟨b129, 0, none⟩, 1, 1⟩ : Sl))) (w' := w50) rfl rfl rfl ((x_buildSlice (qs := [(0, (Value.string x124))]) rfl (by rfl) (BS_22_1_0 x124)).trans (by rw [← hb129, ← hw129])) ?_
        obtain ⟨r130, w51, q130, h⟩ := h
        refine wpR_val (v := (Sl.v r130)) (w' := w51) rfl rfl rfl (x_append (s := x128) (u := (⟨some ⟨b129, 0, none⟩, 1, 1⟩ : Sl)) rfl rfl rfl rfl q130) ?_
        refine wpR_val (v := (Value.pointer (some ((Addr.mk b34 0 none).add 12)))) (w' := w51) rfl rfl rfl (x_fieldAddr rfl e5 FA_24_12) ?_
        obtain ⟨q131, h⟩ := h
        obtain ⟨w52, hw131⟩ : ∃ u, u = setAll w51 ((Addr.mk b34 0 none).add 12) [(Sl.v r130)] 0 := ⟨_, rfl⟩
        replace h := h w52 hw131
        refine wpR_skp (w' := w52) rfl rfl ((x_store (v := (Sl.v r130)) rfl rfl rfl SZ_22 (ones (by rfl)) q131).trans (by rw [hw131]; rfl)) ?_
        refine wpR_nil ?_
        exact ⟨(), ⟨e2, e3, e4, e5, e80, e81, e82, trivial⟩, h⟩
      · replace h := h.2 hc127
        refine wpC_skip ?_
        exact ⟨(), ⟨e2, e3, e4, e5, e80, e81, e82, trivial⟩, h⟩
    clear h
    rintro l122 ρ w48 ⟨e2, e3, e4, e5, e80, e81, e82, -⟩ h
    replace h := hk l122 w48 h
    clear hk
    refine wpC_region ?_
    refine wpR_val (v := (Value.int .i64 (IntKind.i64.wrap (l119 + 1)))) (w' := w48) rfl rfl rfl (x_add rfl e82 rfl) ?_
    refine wpR_val (v := (Value.int .i64 (IntKind.i64.wrap (l119 + 1)))) (w' := w48) rfl rfl rfl (x_move (v := (Value.int .i64 (IntKind.i64.wrap (l119 + 1)))) rfl rfl) ?_
    refine wpR_nil ?_
    exact ⟨IntKind.i64.wrap (l119 + 1), ⟨rfl, e2, e3, e4, e5, e80, e81, trivial⟩, h⟩
  · replace h := h.2 hc120
    refine wpC_exit ?_
    obtain ⟨J132, h, hk⟩ := h
    refine wpC_seqJ (fun (x : Unit) ρ => ρ 2 = (Value.pointer (some (Addr.mk b9 0 none))) ∧ ρ 3 = (Value.pointer (some (Addr.mk b10 0 none))) ∧ ρ 4 = (Value.pointer (some (Addr.mk b11 0 none))) ∧ ρ 5 = (Value.pointer (some (Addr.mk b34 0 none))) ∧ True) J132 ?_ ?_
    · clear hk
      refine wpC_seq ?_
      refine wpC_cut (fun ρ => ρ 2 = (Value.pointer (some (Addr.mk b9 0 none))) ∧ ρ 3 = (Value.pointer (some (Addr.mk b10 0 none))) ∧ ρ 4 = (Value.pointer (some (Addr.mk b11 0 none))) ∧ ρ 5 = (Value.pointer (some (Addr.mk b34 0 none))) ∧ True) ⟨e2, e3, e4, e5, trivial⟩ ?_
      rintro ρ ⟨e2, e3, e4, e5, -⟩
      refine wpC_region ?_
      refine wpR_val (v := (Value.pointer (some ((Addr.mk b34 0 none).add 10)))) (w' := w47) rfl rfl rfl (x_fieldAddr rfl e5 FA_24_10) ?_
      obtain ⟨x134, q134, h⟩ := h
      refine wpR_val (v := (Value.int .i64 x134)) (w' := w47) rfl rfl rfl (x_load1 rfl rfl SH_3 q134) ?_
      refine wpR_val (v := (Value.bool (decide (x134 = 0)))) (w' := w47) rfl rfl rfl (x_eql rfl rfl rfl) ?_
      refine wpR_val (v := (Value.bool (decide (x134 = 0)))) (w' := w47) rfl rfl rfl (x_move (v := (Value.bool (decide (x134 = 0)))) rfl rfl) ?_
      obtain ⟨J135, h, hk⟩ := h
      refine wpR_joinJ 4 (fun x ρ => ρ 104 = Value.bool x ∧ ρ 2 = (Value.pointer (some (Addr.mk b9 0 none))) ∧ ρ 3 = (Value.pointer (some (Addr.mk b10 0 none))) ∧ ρ 4 = (Value.pointer (some (Addr.mk b11 0 none))) ∧ ρ 5 = (Value.pointer (some (Addr.mk b34 0 none))) ∧ True) (fun x w => J135 x ∧ w47 = w) ?_ ?_
      · clear hk
        rcases Bool.eq_false_or_eq_true (decide (x134 = 0)) with hc136 | hc136
        · replace h := h.1 hc136
          refine wpR_pass (wantN rfl rfl rfl hc136) rfl rfl ?_
          refine wpR_pass (wantN rfl rfl rfl hc136) rfl rfl ?_
          refine wpR_pass (wantN rfl rfl rfl hc136) rfl rfl ?_
          refine wpR_val (v := (Value.bool true)) (w' := w47) rfl rfl rfl (x_pickT (v := (Value.bool true)) rfl rfl hc136 rfl) ?_
          refine wpR_nil ?_
          exact ⟨true, ⟨rfl, e2, e3, e4, e5, trivial⟩, h, rfl⟩
        · replace h := h.2 hc136
          refine wpR_val (v := (Value.pointer (some ((Addr.mk b34 0 none).add 11)))) (w' := w47) (wantG rfl rfl rfl hc136) rfl rfl (x_fieldAddr rfl e5 FA_24_11) ?_
          obtain ⟨x137, q137, h⟩ := h
          refine wpR_val (v := (Value.int .i64 x137)) (w' := w47) (wantG rfl rfl rfl hc136) rfl rfl (x_load1 rfl rfl SH_3 q137) ?_
          refine wpR_val (v := (Value.bool (decide (x137 = 0)))) (w' := w47) (wantG rfl rfl rfl hc136) rfl rfl (x_eql rfl rfl rfl) ?_
          refine wpR_val (v := (Value.bool (decide (x137 = 0)))) (w' := w47) rfl rfl rfl (x_pickF (v := (Value.bool (decide (x137 = 0)))) rfl rfl hc136 rfl) ?_
          refine wpR_nil ?_
          exact ⟨decide (x137 = 0), ⟨rfl, e2, e3, e4, e5, trivial⟩, h, rfl⟩
      clear h
      rintro c138 ρ wj ⟨e104, e2, e3, e4, e5, -⟩ ⟨h, rfl⟩
      replace h := hk c138 h
      clear hk
      refine wpR_val (v := (Value.bool c138)) (w' := w47) rfl rfl rfl (x_move (v := (Value.bool c138)) rfl e104) ?_
      obtain ⟨J139, h, hk⟩ := h
      refine wpR_joinJ 5 (fun x ρ => ρ 110 = Value.bool x ∧ ρ 2 = (Value.pointer (some (Addr.mk b9 0 none))) ∧ ρ 3 = (Value.pointer (some (Addr.mk b10 0 none))) ∧ ρ 4 = (Value.pointer (some (Addr.mk b11 0 none))) ∧ ρ 5 = (Value.pointer (some (Addr.mk b34 0 none))) ∧ True) (fun x w => J139 x ∧ w47 = w) ?_ ?_
      · clear hk
        rcases Bool.eq_false_or_eq_true (c138) with hc140 | hc140
        · replace h := h.1 hc140
          refine wpR_pass (wantN rfl rfl rfl hc140) rfl rfl ?_
          refine wpR_pass (wantN rfl rfl rfl hc140) rfl rfl ?_
          refine wpR_pass (wantN rfl rfl rfl hc140) rfl rfl ?_
          refine wpR_pass (wantN rfl rfl rfl hc140) rfl rfl ?_
          refine wpR_val (v := (Value.bool true)) (w' := w47) rfl rfl rfl (x_pickT (v := (Value.bool true)) rfl rfl hc140 rfl) ?_
          refine wpR_nil ?_
          exact ⟨true, ⟨rfl, e2, e3, e4, e5, trivial⟩, h, rfl⟩
        · replace h := h.2 hc140
          refine wpR_val (v := (Value.pointer (some ((Addr.mk b34 0 none).add 12)))) (w' := w47) (wantG rfl rfl rfl hc140) rfl rfl (x_fieldAddr rfl e5 FA_24_12) ?_
          obtain ⟨x141, q141, h⟩ := h
          refine wpR_val (v := (Sl.v x141)) (w' := w47) (wantG rfl rfl rfl hc140) rfl rfl (x_load1 rfl rfl SH_22 q141) ?_
          refine wpR_val (v := (Value.int .i64 (x141.len : Int))) (w' := w47) (wantG rfl rfl rfl hc140) rfl rfl (x_lenS (s := x141) rfl rfl isSliceT_22) ?_
          refine wpR_val (v := (Value.bool (decide ((x141.len : Int) = 0)))) (w' := w47) (wantG rfl rfl rfl hc140) rfl rfl (x_eql rfl rfl rfl) ?_
          refine wpR_val (v := (Value.bool (decide ((x141.len : Int) = 0)))) (w' := w47) rfl rfl rfl (x_pickF (v := (Value.bool (decide ((x141.len : Int) = 0)))) rfl rfl hc140 rfl) ?_
          refine wpR_nil ?_
          exact ⟨decide ((x141.len : Int) = 0), ⟨rfl, e2, e3, e4, e5, trivial⟩, h, rfl⟩
      clear h
      rintro c142 ρ wj ⟨e110, e2, e3, e4, e5, -⟩ ⟨h, rfl⟩
      replace h := hk c142 h
      clear hk
      refine wpR_nil ?_
      refine wpC_cond (b := c142) e110 (fun hc143 => ?_) (fun hc143 => ?_)
      · replace h := h.1 hc143
        refine wpC_region ?_
        refine wpR_val (v := (Value.pointer (some ((Addr.mk b34 0 none).add 10)))) (w' := w47) rfl rfl rfl (x_fieldAddr rfl e5 FA_24_10) ?_
        obtain ⟨q144, h⟩ := h
        obtain ⟨w54, hw144⟩ : ∃ u, u = setAll w47 ((Addr.mk b34 0 none).add 10) [(Value.int .i64 0)] 0 := ⟨_, rfl⟩
        replace h := h w54 hw144
        refine wpR_skp (w' := w54) rfl rfl ((x_store (v := (Value.int .i64 0)) rfl rfl rfl SZ_3 (ones (by rfl)) q144).trans (by rw [hw144]; rfl)) ?_
        refine wpR_val (v := (Value.pointer (some ((Addr.mk b34 0 none).add 11)))) (w' := w54) rfl rfl rfl (x_fieldAddr rfl e5 FA_24_11) ?_
        obtain ⟨q145, h⟩ := h
        obtain ⟨w55, hw145⟩ : ∃ u, u = setAll w54 ((Addr.mk b34 0 none).add 11) [(Value.int .i64 0)] 0 := ⟨_, rfl⟩
        replace h := h w55 hw145
        refine wpR_skp (w' := w55) rfl rfl ((x_store (v := (Value.int .i64 0)) rfl rfl rfl SZ_3 (ones (by rfl)) q145).trans (by rw [hw145]; rfl)) ?_
        refine wpR_val (v := (Value.pointer (some ((Addr.mk b34 0 none).add 12)))) (w' := w55) rfl rfl rfl (x_fieldAddr rfl e5 FA_24_12) ?_
        obtain ⟨q146, h⟩ := h
        obtain ⟨w56, hw146⟩ : ∃ u, u = setAll w55 ((Addr.mk b34 0 none).add 12) [(Sl.v Sl.nil)] 0 := ⟨_, rfl⟩
        replace h := h w56 hw146
        refine wpR_skp (w' := w56) rfl rfl ((x_store (v := (Sl.v Sl.nil)) rfl rfl rfl SZ_22 (ones (by rfl)) q146).trans (by rw [hw146]; rfl)) ?_
        refine wpR_nil ?_
        exact ⟨(), ⟨e2, e3, e4, e5, trivial⟩, h⟩
      · replace h := h.2 hc143
        refine wpC_skip ?_
        exact ⟨(), ⟨e2, e3, e4, e5, trivial⟩, h⟩
    clear h
    rintro l133 ρ w53 ⟨e2, e3, e4, e5, -⟩ h
    replace h := hk l133 w53 h
    clear hk
    obtain ⟨J147, h, hk⟩ := h
    refine wpC_seqJ (fun (x : Unit) ρ => ρ 4 = (Value.pointer (some (Addr.mk b11 0 none))) ∧ ρ 5 = (Value.pointer (some (Addr.mk b34 0 none))) ∧ True) J147 ?_ ?_
    · clear hk
      refine wpC_block ?_
      refine wpC_seq ?_
      refine wpC_region ?_
      refine wpR_val (v := (Value.pointer (some ((Addr.mk b34 0 none).add 1)))) (w' := w53) rfl rfl rfl (x_fieldAddr rfl e5 FA_24_1) ?_
      obtain ⟨x149, q149, h⟩ := h
      refine wpR_val (v := (Value.int .i64 x149)) (w' := w53) rfl rfl rfl (x_load1 rfl rfl SH_3 q149) ?_
      refine wpR_val (v := (Value.bool (decide (x149 = 0)))) (w' := w53) rfl rfl rfl (x_eql rfl rfl rfl) ?_
      refine wpR_val (v := (Value.bool (decide (x149 = 0)))) (w' := w53) rfl rfl rfl (x_assign (v := (Value.bool (decide (x149 = 0)))) rfl rfl) ?_
      refine wpR_nil ?_
      refine wpC_cond (b := decide (x149 = 0)) rfl (fun hc150 => ?_) (fun hc150 => ?_)
      · replace h := h.1 hc150
        refine wpC_cut (fun ρ => ρ 4 = (Value.pointer (some (Addr.mk b11 0 none))) ∧ ρ 5 = (Value.pointer (some (Addr.mk b34 0 none))) ∧ True) ⟨e4, e5, trivial⟩ ?_
        rintro ρ ⟨e4, e5, -⟩
        refine wpC_region ?_
        refine wpR_val (v := (Value.pointer (some ((Addr.mk b34 0 none).add 2)))) (w' := w53) rfl rfl rfl (x_fieldAddr rfl e5 FA_24_2) ?_
        obtain ⟨q151, h⟩ := h
        obtain ⟨w58, hw151⟩ : ∃ u, u = setAll w53 ((Addr.mk b34 0 none).add 2) [(Value.int .i64 0)] 0 := ⟨_, rfl⟩
        replace h := h w58 hw151
        refine wpR_skp (w' := w58) rfl rfl ((x_store (v := (Value.int .i64 0)) rfl rfl rfl SZ_3 (ones (by rfl)) q151).trans (by rw [hw151]; rfl)) ?_
        refine wpR_nil ?_
        exact ⟨(), ⟨e4, e5, trivial⟩, h⟩
      · replace h := h.2 hc150
        refine wpC_seq ?_
        refine wpC_cut (fun ρ => ρ 2 = (Value.pointer (some (Addr.mk b9 0 none))) ∧ ρ 3 = (Value.pointer (some (Addr.mk b10 0 none))) ∧ ρ 4 = (Value.pointer (some (Addr.mk b11 0 none))) ∧ ρ 5 = (Value.pointer (some (Addr.mk b34 0 none))) ∧ True) ⟨e2, e3, e4, e5, trivial⟩ ?_
        rintro ρ ⟨e2, e3, e4, e5, -⟩
        refine wpC_region ?_
        refine wpR_val (v := (Value.pointer (some ((Addr.mk b9 0 none).add 2)))) (w' := w53) rfl rfl rfl (x_fieldAddr rfl e2 FA_24_2) ?_
        obtain ⟨x152, q152, h⟩ := h
        refine wpR_val (v := (Value.int .i64 x152)) (w' := w53) rfl rfl rfl (x_load1 rfl rfl SH_3 q152) ?_
        refine wpR_val (v := (Value.bool (decide (x152 = 0)))) (w' := w53) rfl rfl rfl (x_eql rfl rfl rfl) ?_
        refine wpR_val (v := (Value.bool (decide (x152 = 0)))) (w' := w53) rfl rfl rfl (x_assign (v := (Value.bool (decide (x152 = 0)))) rfl rfl) ?_
        refine wpR_nil ?_
        refine wpC_cond (b := decide (x152 = 0)) rfl (fun hc153 => ?_) (fun hc153 => ?_)
        · replace h := h.1 hc153
          refine wpC_cut (fun ρ => ρ 3 = (Value.pointer (some (Addr.mk b10 0 none))) ∧ ρ 4 = (Value.pointer (some (Addr.mk b11 0 none))) ∧ ρ 5 = (Value.pointer (some (Addr.mk b34 0 none))) ∧ True) ⟨e3, e4, e5, trivial⟩ ?_
          rintro ρ ⟨e3, e4, e5, -⟩
          refine wpC_region ?_
          refine wpR_val (v := (Value.pointer (some ((Addr.mk b10 0 none).add 2)))) (w' := w53) rfl rfl rfl (x_fieldAddr rfl e3 FA_24_2) ?_
          obtain ⟨x154, q154, h⟩ := h
          refine wpR_val (v := (Value.int .i64 x154)) (w' := w53) rfl rfl rfl (x_load1 rfl rfl SH_3 q154) ?_
          refine wpR_val (v := (Value.pointer (some ((Addr.mk b34 0 none).add 2)))) (w' := w53) rfl rfl rfl (x_fieldAddr rfl e5 FA_24_2) ?_
          obtain ⟨q155, h⟩ := h
          obtain ⟨w59, hw155⟩ : ∃ u, u = setAll w53 ((Addr.mk b34 0 none).add 2) [(Value.int .i64 x154)] 0 := ⟨_, rfl⟩
          replace h := h w59 hw155
          refine wpR_skp (w' := w59) rfl rfl ((x_store (v := (Value.int .i64 x154)) rfl rfl rfl SZ_3 (ones (by rfl)) q155).trans (by rw [hw155]; rfl)) ?_
          refine wpR_nil ?_
          exact ⟨(), ⟨e4, e5, trivial⟩, h⟩
        · replace h := h.2 hc153
          refine wpC_seq ?_
          refine wpC_cut (fun ρ => ρ 2 = (Value.pointer (some (Addr.mk b9 0 none))) ∧ ρ 3 = (Value.pointer (some (Addr.mk b10 0 none))) ∧ ρ 4 = (Value.pointer (some (Addr.mk b11 0 none))) ∧ ρ 5 = (Value.pointer (some (Addr.mk b34 0 none))) ∧ True) ⟨e2, e3, e4, e5, trivial⟩ ?_
          rintro ρ ⟨e2, e3, e4, e5, -⟩
          refine wpC_region ?_
          refine wpR_val (v := (Value.pointer (some ((Addr.mk b10 0 none).add 2)))) (w' := w53) rfl rfl rfl (x_fieldAddr rfl e3 FA_24_2) ?_
          obtain ⟨x156, q156, h⟩ := h
          refine wpR_val (v := (Value.int .i64 x156)) (w' := w53) rfl rfl rfl (x_load1 rfl rfl SH_3 q156) ?_
          refine wpR_val (v := (Value.bool (decide (x156 = 0)))) (w' := w53) rfl rfl rfl (x_eql rfl rfl rfl) ?_
          refine wpR_val (v := (Value.bool (decide (x156 = 0)))) (w' := w53) rfl rfl rfl (x_assign (v := (Value.bool (decide (x156 = 0)))) rfl rfl) ?_
          refine wpR_nil ?_
          refine wpC_cond (b := decide (x156 = 0)) rfl (fun hc157 => ?_) (fun hc157 => ?_)
          · replace h := h.1 hc157
            refine wpC_cut (fun ρ => ρ 2 = (Value.pointer (some (Addr.mk b9 0 none))) ∧ ρ 4 = (Value.pointer (some (Addr.mk b11 0 none))) ∧ ρ 5 = (Value.pointer (some (Addr.mk b34 0 none))) ∧ True) ⟨e2, e4, e5, trivial⟩ ?_
            rintro ρ ⟨e2, e4, e5, -⟩
            refine wpC_region ?_
            refine wpR_val (v := (Value.pointer (some ((Addr.mk b9 0 none).add 2)))) (w' := w53) rfl rfl rfl (x_fieldAddr rfl e2 FA_24_2) ?_
            obtain ⟨x158, q158, h⟩ := h
            refine wpR_val (v := (Value.int .i64 x158)) (w' := w53) rfl rfl rfl (x_load1 rfl rfl SH_3 q158) ?_
            refine wpR_val (v := (Value.pointer (some ((Addr.mk b34 0 none).add 2)))) (w' := w53) rfl rfl rfl (x_fieldAddr rfl e5 FA_24_2) ?_
            obtain ⟨q159, h⟩ := h
            obtain ⟨w60, hw159⟩ : ∃ u, u = setAll w53 ((Addr.mk b34 0 none).add 2) [(Value.int .i64 x158)] 0 := ⟨_, rfl⟩
            replace h := h w60 hw159
            refine wpR_skp (w' := w60) rfl rfl ((x_store (v := (Value.int .i64 x158)) rfl rfl rfl SZ_3 (ones (by rfl)) q159).trans (by rw [hw159]; rfl)) ?_
            refine wpR_nil ?_
            exact ⟨(), ⟨e4, e5, trivial⟩, h⟩
          · replace h := h.2 hc157
            refine wpC_cut (fun ρ => ρ 2 = (Value.pointer (some (Addr.mk b9 0 none))) ∧ ρ 3 = (Value.pointer (some (Addr.mk b10 0 none))) ∧ ρ 4 = (Value.pointer (some (Addr.mk b11 0 none))) ∧ ρ 5 = (Value.pointer (some (Addr.mk b34 0 none))) ∧ True) ⟨e2, e3, e4, e5, trivial⟩ ?_
            rintro ρ ⟨e2, e3, e4, e5, -⟩
            refine wpC_region ?_
            refine wpR_val (v := (Value.pointer (some ((Addr.mk b9 0 none).add 2)))) (w' := w53) rfl rfl rfl (x_fieldAddr rfl e2 FA_24_2) ?_
            obtain ⟨x160, q160, h⟩ := h
            refine wpR_val (v := (Value.int .i64 x160)) (w' := w53) rfl rfl rfl (x_load1 rfl rfl SH_3 q160) ?_
            refine wpR_val (v := (Value.pointer (some ((Addr.mk b10 0 none).add 2)))) (w' := w53) rfl rfl rfl (x_fieldAddr rfl e3 FA_24_2) ?_
            obtain ⟨x161, q161, h⟩ := h
            refine wpR_val (v := (Value.int .i64 x161)) (w' := w53) rfl rfl rfl (x_load1 rfl rfl SH_3 q161) ?_
            refine wpR_val (v := (Value.int .i64 (min x160 x161))) (w' := w53) rfl rfl rfl (x_min rfl rfl rfl) ?_
            refine wpR_val (v := (Value.pointer (some ((Addr.mk b34 0 none).add 2)))) (w' := w53) rfl rfl rfl (x_fieldAddr rfl e5 FA_24_2) ?_
            obtain ⟨q162, h⟩ := h
            obtain ⟨w61, hw162⟩ : ∃ u, u = setAll w53 ((Addr.mk b34 0 none).add 2) [(Value.int .i64 (min x160 x161))] 0 := ⟨_, rfl⟩
            replace h := h w61 hw162
            refine wpR_skp (w' := w61) rfl rfl ((x_store (v := (Value.int .i64 (min x160 x161))) rfl rfl rfl SZ_3 (ones (by rfl)) q162).trans (by rw [hw162]; rfl)) ?_
            refine wpR_nil ?_
            exact ⟨(), ⟨e4, e5, trivial⟩, h⟩
    clear h
    rintro l148 ρ w57 ⟨e4, e5, -⟩ h
    replace h := hk l148 w57 h
    clear hk
    refine wpC_seq ?_
    refine wpC_region ?_
    obtain ⟨x163, q163, x164, q164, x165, q165, x166, q166, x167, q167, x168, q168, x169, q169, x170, q170, x171, q171, x172, q172, x173, q173, x174, q174, x175, q175, x176, q176, x177, q177, x178, q178, x179, q179, x180, q180, x181, q181, x182, q182, x183, q183, x184, q184, h⟩ := h
    refine wpR_val (v := (V23 x163 x164 x165 x166 x167 x168 x169 x170 x171 x172 x173 x174 x175 x176 x177 x178 x179 x180 x181 x182 x183 x184)) (w' := w57) rfl rfl rfl (x_loadN (S23 x163 x164 x165 x166 x167 x168 x169 x170 x171 x172 x173 x174 x175 x176 x177 x178 x179 x180 x181 x182 x183 x184) rfl e5 SH_24 (K23 ⟨q163, q164, q165, q166, q167, q168, q169, q170, q171, q172, q173, q174, q175, q176, q177, q178, q179, q180, q181, q182, q183, q184⟩)) ?_
    obtain ⟨q185, h⟩ := h
    obtain ⟨w62, hw185⟩ : ∃ u, u = setAll w57 (Addr.mk b11 0 none) (S23 x163 x164 x165 x166 x167 x168 x169 x170 x171 x172 x173 x174 x175 x176 x177 x178 x179 x180 x181 x182 x183 x184) 0 := ⟨_, rfl⟩
    replace h := h w62 hw185
    refine wpR_skp (w' := w62) rfl rfl ((x_store (v := (V23 x163 x164 x165 x166 x167 x168 x169 x170 x171 x172 x173 x174 x175 x176 x177 x178 x179 x180 x181 x182 x183 x184)) rfl e4 rfl SZ_24 (ones (by rfl)) q185).trans (by rw [hw185]; rfl)) ?_
    refine wpR_nil ?_
    refine wpC_ret ?_
    obtain ⟨x186, q186, x187, q187, x188, q188, x189, q189, x190, q190, x191, q191, x192, q192, x193, q193, x194, q194, x195, q195, x196, q196, x197, q197, x198, q198, x199, q199, x200, q200, x201, q201, x202, q202, x203, q203, x204, q204, x205, q205, x206, q206, x207, q207, h⟩ := h
    exact ⟨.inl rfl, fun a ha => ⟨_, results_repC (S23 x186 x187 x188 x189 x190 x191 x192 x193 x194 x195 x196 x197 x198 x199 x200 x201 x202 x203 x204 x205 x206 x207) rfl ha e4 SH_24 (K23 ⟨q186, q187, q188, q189, q190, q191, q192, q193, q194, q195, q196, q197, q198, q199, q200, q201, q202, q203, q204, q205, q206, q207⟩), (x186, x187, x188, x189, x190, x191, x192, x193, x194, x195, x196, x197, x198, x199, x200, x201, x202, x203, x204, x205, x206, x207), rfl, h⟩⟩

/-- profile.Join -/
def F22 (p0_0 : ByteArray) (p0_1 : Int) (p0_2 : Int) (p0_3 : Int) (p0_4 : Bool) (p0_5 : Int) (p0_6 : Bool) (p0_7 : Bool) (p0_8 : Int) (p0_9 : Int) (p0_10 : Int) (p0_11 : Int) (p0_12 : Sl) (p0_13 : Int) (p0_14 : Int) (p0_15 : Int) (p0_16 : Int) (p0_17 : Bool) (p0_18 : Int) (p0_19 : Int) (p0_20 : Int) (p0_21 : Int) (p1_0 : ByteArray) (p1_1 : Int) (p1_2 : Int) (p1_3 : Int) (p1_4 : Bool) (p1_5 : Int) (p1_6 : Bool) (p1_7 : Bool) (p1_8 : Int) (p1_9 : Int) (p1_10 : Int) (p1_11 : Int) (p1_12 : Sl) (p1_13 : Int) (p1_14 : Int) (p1_15 : Int) (p1_16 : Int) (p1_17 : Bool) (p1_18 : Int) (p1_19 : Int) (p1_20 : Int) (p1_21 : Int) (w0 : World) (K : T23 → World → Prop) : Prop :=
  nw 24 (A23 p0_0 p0_1 p0_2 p0_3 p0_4 p0_5 p0_6 p0_7 p0_8 p0_9 p0_10 p0_11 p0_12 p0_13 p0_14 p0_15 p0_16 p0_17 p0_18 p0_19 p0_20 p0_21) w0 fun b9 w1 =>
  nw 24 (A23 p1_0 p1_1 p1_2 p1_3 p1_4 p1_5 p1_6 p1_7 p1_8 p1_9 p1_10 p1_11 p1_12 p1_13 p1_14 p1_15 p1_16 p1_17 p1_18 p1_19 p1_20 p1_21) w1 fun b10 w2 =>
  nw 24 (A23 (ByteArray.mk #[]) 0 0 0 false 0 false false 0 0 0 0 Sl.nil 0 0 0 0 false 0 0 0 0) w2 fun b11 w3 =>
  L23 (Addr.mk b9 0 none) w3 fun x12 x13 x14 x15 x16 x17 x18 x19 x20 x21 x22 x23 x24 x25 x26 x27 x28 x29 x30 x31 x32 x33 =>
  nw 24 (A23 (ByteArray.mk #[]) 0 0 0 false 0 false false 0 0 0 0 Sl.nil 0 0 0 0 false 0 0 0 0) w3 fun b34 w4 =>
  st (Addr.mk b34 0 none) (S23 x12 x13 x14 x15 x16 x17 x18 x19 x20 x21 x22 x23 x24 x25 x26 x27 x28 x29 x30 x31 x32 x33) w4 fun w5 =>
  jn (fun (J37 : Unit → World → Prop) => tk w5 fun w6 =>
    ld (Value.int .i64) ((Addr.mk b9 0 none).add 1) w6 fun x38 =>
    ld (Value.int .i64) ((Addr.mk b10 0 none).add 1) w6 fun x39 =>
    ld (Value.int .i64) ((Addr.mk b9 0 none).add 3) w6 fun x40 =>
    ld (Value.int .i64) ((Addr.mk b10 0 none).add 3) w6 fun x41 =>
    ld (Value.int .i64) ((Addr.mk b9 0 none).add 5) w6 fun x42 =>
    ld (Value.int .i64) ((Addr.mk b10 0 none).add 5) w6 fun x43 =>
    st ((Addr.mk b34 0 none).add 1) [(Value.int .i64 (max x38 x39))] w6 fun w7 =>
    (w7.cell? ((Addr.mk b10 0 none).add 5) = some (Value.int .i64 x43)) ∧
    (w7.cell? ((Addr.mk b9 0 none).add 5) = some (Value.int .i64 x42)) ∧
    (w7.cell? ((Addr.mk b10 0 none).add 3) = some (Value.int .i64 x41)) ∧
    (w7.cell? ((Addr.mk b9 0 none).add 3) = some (Value.int .i64 x40)) ∧
    st ((Addr.mk b34 0 none).add 3) [(Value.int .i64 (max x40 x41))] w7 fun w8 =>
    (w8.cell? ((Addr.mk b10 0 none).add 5) = some (Value.int .i64 x43)) ∧
    (w8.cell? ((Addr.mk b9 0 none).add 5) = some (Value.int .i64 x42)) ∧
    st ((Addr.mk b34 0 none).add 5) [(Value.int .i64 (max x42 x43))] w8 fun w9 =>
    J37 () w9
  )
  fun _l47 w10 =>
  jn (fun (J49 : Unit → World → Prop) => tk w10 fun w11 =>
    ld Value.bool ((Addr.mk b9 0 none).add 4) w11 fun x50 =>
    cnd (x50)
      (
      ld Value.bool ((Addr.mk b9 0 none).add 6) w11 fun x52 =>
      cnd (x52)
        (
        ld Value.bool ((Addr.mk b9 0 none).add 7) w11 fun x54 =>
        cnd (x54)
          (
          st ((Addr.mk b34 0 none).add 4) [(Value.bool true)] w11 fun w12 =>
          (w12.cell? ((Addr.mk b9 0 none).add 7) = some (Value.bool x54)) ∧
          (w12.cell? ((Addr.mk b9 0 none).add 6) = some (Value.bool x52)) ∧
          st ((Addr.mk b34 0 none).add 6) [(Value.bool true)] w12 fun w13 =>
          (w13.cell? ((Addr.mk b9 0 none).add 7) = some (Value.bool x54)) ∧
          st ((Addr.mk b34 0 none).add 7) [(Value.bool true)] w13 fun w14 =>
          J49 () w14
          )
          (
          ld Value.bool ((Addr.mk b10 0 none).add 7) w11 fun x59 =>
          st ((Addr.mk b34 0 none).add 4) [(Value.bool true)] w11 fun w15 =>
          (w15.cell? ((Addr.mk b10 0 none).add 7) = some (Value.bool x59)) ∧
          (w15.cell? ((Addr.mk b9 0 none).add 7) = some (Value.bool x54)) ∧
          (w15.cell? ((Addr.mk b9 0 none).add 6) = some (Value.bool x52)) ∧
          st ((Addr.mk b34 0 none).add 6) [(Value.bool true)] w15 fun w16 =>
          (w16.cell? ((Addr.mk b10 0 none).add 7) = some (Value.bool x59)) ∧
          (w16.cell? ((Addr.mk b9 0 none).add 7) = some (Value.bool x54)) ∧
          st ((Addr.mk b34 0 none).add 7) [(Value.bool x59)] w16 fun w17 =>
          J49 () w17
          )
        )
        (
        ld Value.bool ((Addr.mk b10 0 none).add 6) w11 fun x63 =>
        ld Value.bool ((Addr.mk b9 0 none).add 7) w11 fun x64 =>
        cnd (x64)
          (
          st ((Addr.mk b34 0 none).add 4) [(Value.bool true)] w11 fun w18 =>
          (w18.cell? ((Addr.mk b9 0 none).add 7) = some (Value.bool x64)) ∧
          (w18.cell? ((Addr.mk b10 0 none).add 6) = some (Value.bool x63)) ∧
          (w18.cell? ((Addr.mk b9 0 none).add 6) = some (Value.bool x52)) ∧
          st ((Addr.mk b34 0 none).add 6) [(Value.bool x63)] w18 fun w19 =>
          (w19.cell? ((Addr.mk b9 0 none).add 7) = some (Value.bool x64)) ∧
          st ((Addr.mk b34 0 none).add 7) [(Value.bool true)] w19 fun w20 =>
          J49 () w20
          )
          (
          ld Value.bool ((Addr.mk b10 0 none).add 7) w11 fun x69 =>
          st ((Addr.mk b34 0 none).add 4) [(Value.bool true)] w11 fun w21 =>
          (w21.cell? ((Addr.mk b10 0 none).add 7) = some (Value.bool x69)) ∧
          (w21.cell? ((Addr.mk b9 0 none).add 7) = some (Value.bool x64)) ∧
          (w21.cell? ((Addr.mk b10 0 none).add 6) = some (Value.bool x63)) ∧
          (w21.cell? ((Addr.mk b9 0 none).add 6) = some (Value.bool x52)) ∧
          st ((Addr.mk b34 0 none).add 6) [(Value.bool x63)] w21 fun w22 =>
          (w22.cell? ((Addr.mk b10 0 none).add 7) = some (Value.bool x69)) ∧
          (w22.cell? ((Addr.mk b9 0 none).add 7) = some (Value.bool x64)) ∧
          st ((Addr.mk b34 0 none).add 7) [(Value.bool x69)] w22 fun w23 =>
          J49 () w23
          )
        )
      )
      (
      ld Value.bool ((Addr.mk b10 0 none).add 4) w11 fun x73 =>
      ld Value.bool ((Addr.mk b9 0 none).add 6) w11 fun x74 =>
      cnd (x74)
        (
        ld Value.bool ((Addr.mk b9 0 none).add 7) w11 fun x76 =>
        cnd (x76)
          (
          st ((Addr.mk b34 0 none).add 4) [(Value.bool x73)] w11 fun w24 =>
          (w24.cell? ((Addr.mk b9 0 none).add 7) = some (Value.bool x76)) ∧
          (w24.cell? ((Addr.mk b9 0 none).add 6) = some (Value.bool x74)) ∧
          st ((Addr.mk b34 0 none).add 6) [(Value.bool true)] w24 fun w25 =>
          (w25.cell? ((Addr.mk b9 0 none).add 7) = some (Value.bool x76)) ∧
          st ((Addr.mk b34 0 none).add 7) [(Value.bool true)] w25 fun w26 =>
          J49 () w26
          )
          (
          ld Value.bool ((Addr.mk b10 0 none).add 7) w11 fun x81 =>
          st ((Addr.mk b34 0 none).add 4) [(Value.bool x73)] w11 fun w27 =>
          (w27.cell? ((Addr.mk b10 0 none).add 7) = some (Value.bool x81)) ∧
          (w27.cell? ((Addr.mk b9 0 none).add 7) = some (Value.bool x76)) ∧
          (w27.cell? ((Addr.mk b9 0 none).add 6) = some (Value.bool x74)) ∧
          st ((Addr.mk b34 0 none).add 6) [(Value.bool true)] w27 fun w28 =>
          (w28.cell? ((Addr.mk b10 0 none).add 7) = some (Value.bool x81)) ∧
          (w28.cell? ((Addr.mk b9 0 none).add 7) = some (Value.bool x76)) ∧
          st ((Addr.mk b34 0 none).add 7) [(Value.bool x81)] w28 fun w29 =>
          J49 () w29
          )
        )
        (
        ld Value.bool ((Addr.mk b10 0 none).add 6) w11 fun x85 =>
        ld Value.bool ((Addr.mk b9 0 none).add 7) w11 fun x86 =>
        cnd (x86)
          (
          st ((Addr.mk b34 0 none).add 4) [(Value.bool x73)] w11 fun w30 =>
          (w30.cell? ((Addr.mk b9 0 none).add 7) = some (Value.bool x86)) ∧
          (w30.cell? ((Addr.mk b10 0 none).add 6) = some (Value.bool x85)) ∧
          (w30.cell? ((Addr.mk b9 0 none).add 6) = some (Value.bool x74)) ∧
          st ((Addr.mk b34 0 none).add 6) [(Value.bool x85)] w30 fun w31 =>
          (w31.cell? ((Addr.mk b9 0 none).add 7) = some (Value.bool x86)) ∧
          st ((Addr.mk b34 0 none).add 7) [(Value.bool true)] w31 fun w32 =>
          J49 () w32
          )
          (
          ld Value.bool ((Addr.mk b10 0 none).add 7) w11 fun x91 =>
          st ((Addr.mk b34 0 none).add 4) [(Value.bool x73)] w11 fun w33 =>
          (w33.cell? ((Addr.mk b10 0 none).add 7) = some (Value.bool x91)) ∧
          (w33.cell? ((Addr.mk b9 0 none).add 7) = some (Value.bool x86)) ∧
          (w33.cell? ((Addr.mk b10 0 none).add 6) = some (Value.bool x85)) ∧
          (w33.cell? ((Addr.mk b9 0 none).add 6) = some (Value.bool x74)) ∧
          st ((Addr.mk b34 0 none).add 6) [(Value.bool x85)] w33 fun w34 =>
          (w34.cell? ((Addr.mk b10 0 none).add 7) = some (Value.bool x91)) ∧
          (w34.cell? ((Addr.mk b9 0 none).add 7) = some (Value.bool x86)) ∧
          st ((Addr.mk b34 0 none).add 7) [(Value.bool x91)] w34 fun w35 =>
          J49 () w35
          )
        )
      )
  )
  fun _l95 w36 =>
  jn (fun (J97 : Unit → World → Prop) => tk w36 fun w37 =>
    ld (Value.int .i64) ((Addr.mk b9 0 none).add 8) w37 fun x98 =>
    ld (Value.int .i64) ((Addr.mk b10 0 none).add 8) w37 fun x99 =>
    ld (Value.int .i64) ((Addr.mk b9 0 none).add 9) w37 fun x100 =>
    ld (Value.int .i64) ((Addr.mk b10 0 none).add 9) w37 fun x101 =>
    ld (Value.int .i64) ((Addr.mk b9 0 none).add 16) w37 fun x102 =>
    ld (Value.int .i64) ((Addr.mk b10 0 none).add 16) w37 fun x103 =>
    st ((Addr.mk b34 0 none).add 8) [(Value.int .i64 (max x98 x99))] w37 fun w38 =>
    (w38.cell? ((Addr.mk b10 0 none).add 16) = some (Value.int .i64 x103)) ∧
    (w38.cell? ((Addr.mk b9 0 none).add 16) = some (Value.int .i64 x102)) ∧
    (w38.cell? ((Addr.mk b10 0 none).add 9) = some (Value.int .i64 x101)) ∧
    (w38.cell? ((Addr.mk b9 0 none).add 9) = some (Value.int .i64 x100)) ∧
    st ((Addr.mk b34 0 none).add 9) [(Value.int .i64 (max x100 x101))] w38 fun w39 =>
    (w39.cell? ((Addr.mk b10 0 none).add 16) = some (Value.int .i64 x103)) ∧
    (w39.cell? ((Addr.mk b9 0 none).add 16) = some (Value.int .i64 x102)) ∧
    st ((Addr.mk b34 0 none).add 16) [(Value.int .i64 (max x102 x103))] w39 fun w40 =>
    J97 () w40
  )
  fun _l107 w41 =>
  jn (fun (J109 : Unit → World → Prop) => tk w41 fun w42 =>
    ld (Value.int .i64) ((Addr.mk b9 0 none).add 10) w42 fun x110 =>
    ld (Value.int .i64) ((Addr.mk b10 0 none).add 10) w42 fun x111 =>
    ld (Value.int .i64) ((Addr.mk b9 0 none).add 11) w42 fun x112 =>
    ld (Value.int .i64) ((Addr.mk b10 0 none).add 11) w42 fun x113 =>
    st ((Addr.mk b34 0 none).add 10) [(Value.int .i64 (max x110 x111))] w42 fun w43 =>
    (w43.cell? ((Addr.mk b10 0 none).add 11) = some (Value.int .i64 x113)) ∧
    (w43.cell? ((Addr.mk b9 0 none).add 11) = some (Value.int .i64 x112)) ∧
    st ((Addr.mk b34 0 none).add 11) [(Value.int .i64 (max x112 x113))] w43 fun w44 =>
    J109 () w44
  )
  fun _l116 w45 =>
  L23 (Addr.mk b9 0 none) w45 fun x117 x118 x119 x120 x121 x122 x123 x124 x125 x126 x127 x128 x129 x130 x131 x132 x133 x134 x135 x136 x137 x138 =>
  L23 (Addr.mk b10 0 none) w45 fun x139 x140 x141 x142 x143 x144 x145 x146 x147 x148 x149 x150 x151 x152 x153 x154 x155 x156 x157 x158 x159 x160 =>
  callC Try.prog 44 #[(V23 x117 x118 x119 x120 x121 x122 x123 x124 x125 x126 x127 x128 x129 x130 x131 x132 x133 x134 x135 x136 x137 x138), (V23 x139 x140 x141 x142 x143 x144 x145 x146 x147 x148 x149 x150 x151 x152 x153 x154 x155 x156 x157 x158 x159 x160)] (fun (r : Int) => (Value.int .i64 r)) w45 fun r161 w46 =>
  st ((Addr.mk b34 0 none).add 2) [(Value.int .i64 r161)] w46 fun w47 =>
  ld Sl.v ((Addr.mk b9 0 none).add 12) w47 fun x163 =>
  callC Try.prog 45 #[(Sl.v x163)] (fun (r : Sl) => (Sl.v r)) w47 fun r164 w48 =>
  st ((Addr.mk b34 0 none).add 12) [(Sl.v r164)] w48 fun w49 =>
  ld Sl.v ((Addr.mk b10 0 none).add 12) w49 fun x166 =>
  lp (fun (next167 : Int → World → Prop) l167 w50 =>
    cnd (decide (l167 < (x166.len : Int)))
      (
      jn (fun (J169 : Unit → World → Prop) =>
        ix x166 l167 1 fun p171 =>
        ld Value.string p171 w50 fun x172 =>
        ld Sl.v ((Addr.mk b9 0 none).add 12) w50 fun x173 =>
        callC Try.prog 42 #[(Sl.v x173), (Value.string x172)] (fun (r : Bool) => (Value.bool r)) w50 fun r174 w52 =>
        cnd (!r174)
          (
          ld Sl.v ((Addr.mk b34 0 none).add 12) w52 fun x176 =>
          nw 9 #[(Value.string x172)] w52 fun b177 w53 =>
          rn Try.prog (Builtin.append_ #[22, 22] 22 #[Sl.v x176, Sl.v (⟨some ⟨b177, 0, none⟩, 1, 1⟩ : Sl)]) Sl.v w53 fun r178 w54 =>
          st ((Addr.mk b34 0 none).add 12) [(Sl.v r178)] w54 fun w55 =>
          J169 () w55
          )
          (
          J169 () w52
          )
      )
      fun _l170 w51 =>
      next167 (IntKind.i64.wrap (l167 + 1)) w51
      )
      (
      L23 (Addr.mk b34 0 none) w50 fun x180 x181 x182 x183 x184 x185 x186 x187 x188 x189 x190 x191 x192 x193 x194 x195 x196 x197 x198 x199 x200 x201 =>
      st (Addr.mk b11 0 none) (S23 x180 x181 x182 x183 x184 x185 x186 x187 x188 x189 x190 x191 x192 x193 x194 x195 x196 x197 x198 x199 x200 x201) w50 fun w56 =>
      L23 (Addr.mk b11 0 none) w56 fun x203 x204 x205 x206 x207 x208 x209 x210 x211 x212 x213 x214 x215 x216 x217 x218 x219 x220 x221 x222 x223 x224 =>
      K (x203, x204, x205, x206, x207, x208, x209, x210, x211, x212, x213, x214, x215, x216, x217, x218, x219, x220, x221, x222, x223, x224) w56
      )
  ) 0 w49
set_option maxRecDepth 100000 in
theorem D22 (p0_0 : ByteArray) (p0_1 : Int) (p0_2 : Int) (p0_3 : Int) (p0_4 : Bool) (p0_5 : Int) (p0_6 : Bool) (p0_7 : Bool) (p0_8 : Int) (p0_9 : Int) (p0_10 : Int) (p0_11 : Int) (p0_12 : Sl) (p0_13 : Int) (p0_14 : Int) (p0_15 : Int) (p0_16 : Int) (p0_17 : Bool) (p0_18 : Int) (p0_19 : Int) (p0_20 : Int) (p0_21 : Int) (p1_0 : ByteArray) (p1_1 : Int) (p1_2 : Int) (p1_3 : Int) (p1_4 : Bool) (p1_5 : Int) (p1_6 : Bool) (p1_7 : Bool) (p1_8 : Int) (p1_9 : Int) (p1_10 : Int) (p1_11 : Int) (p1_12 : Sl) (p1_13 : Int) (p1_14 : Int) (p1_15 : Int) (p1_16 : Int) (p1_17 : Bool) (p1_18 : Int) (p1_19 : Int) (p1_20 : Int) (p1_21 : Int) (w0 : World) (K : T23 → World → Prop) (h : F22 p0_0 p0_1 p0_2 p0_3 p0_4 p0_5 p0_6 p0_7 p0_8 p0_9 p0_10 p0_11 p0_12 p0_13 p0_14 p0_15 p0_16 p0_17 p0_18 p0_19 p0_20 p0_21 p1_0 p1_1 p1_2 p1_3 p1_4 p1_5 p1_6 p1_7 p1_8 p1_9 p1_10 p1_11 p1_12 p1_13 p1_14 p1_15 p1_16 p1_17 p1_18 p1_19 p1_20 p1_21 w0 K) : callC Try.prog 22 #[(V23 p0_0 p0_1 p0_2 p0_3 p0_4 p0_5 p0_6 p0_7 p0_8 p0_9 p0_10 p0_11 p0_12 p0_13 p0_14 p0_15 p0_16 p0_17 p0_18 p0_19 p0_20 p0_21), (V23 p1_0 p1_1 p1_2 p1_3 p1_4 p1_5 p1_6 p1_7 p1_8 p1_9 p1_10 p1_11 p1_12 p1_13 p1_14 p1_15 p1_16 p1_17 p1_18 p1_19 p1_20 p1_21)] E23 w0 K := by
  unfold F22 at h
  refine calls_of_wpC Try.func22 rfl 106 rfl (by simp) ?_
  intro ρ hρ
  have e0 : ρ 0 = (V23 p0_0 p0_1 p0_2 p0_3 p0_4 p0_5 p0_6 p0_7 p0_8 p0_9 p0_10 p0_11 p0_12 p0_13 p0_14 p0_15 p0_16 p0_17 p0_18 p0_19 p0_20 p0_21) := hρ 0
  have e1 : ρ 1 = (V23 p1_0 p1_1 p1_2 p1_3 p1_4 p1_5 p1_6 p1_7 p1_8 p1_9 p1_10 p1_11 p1_12 p1_13 p1_14 p1_15 p1_16 p1_17 p1_18 p1_19 p1_20 p1_21) := hρ 1
  clear hρ
  refine wpC_seq ?_
  refine wpC_region ?_
  obtain ⟨b9, hb9⟩ : ∃ u, u = w0.heap.size := ⟨_, rfl⟩
  obtain ⟨w1, hw9⟩ : ∃ u, u = w0.alloc (.cells (A23 p0_0 p0_1 p0_2 p0_3 p0_4 p0_5 p0_6 p0_7 p0_8 p0_9 p0_10 p0_11 p0_12 p0_13 p0_14 p0_15 p0_16 p0_17 p0_18 p0_19 p0_20 p0_21) 24) := ⟨_, rfl⟩
  replace h := h b9 w1 hb9 hw9
  refine wpR_val (v := (Value.pointer (some (Addr.mk b9 0 none)))) (w' := w1) rfl rfl rfl ((x_box (v := (V23 p0_0 p0_1 p0_2 p0_3 p0_4 p0_5 p0_6 p0_7 p0_8 p0_9 p0_10 p0_11 p0_12 p0_13 p0_14 p0_15 p0_16 p0_17 p0_18 p0_19 p0_20 p0_21)) rfl e0).trans (by rw [hb9, hw9]; rfl)) ?_
  obtain ⟨b10, hb10⟩ : ∃ u, u = w1.heap.size := ⟨_, rfl⟩
  obtain ⟨w2, hw10⟩ : ∃ u, u = w1.alloc (.cells (A23 p1_0 p1_1 p1_2 p1_3 p1_4 p1_5 p1_6 p1_7 p1_8 p1_9 p1_10 p1_11 p1_12 p1_13 p1_14 p1_15 p1_16 p1_17 p1_18 p1_19 p1_20 p1_21) 24) := ⟨_, rfl⟩
  replace h := h b10 w2 hb10 hw10
  refine wpR_val (v := (Value.pointer (some (Addr.mk b10 0 none)))) (w' := w2) rfl rfl rfl ((x_box (v := (V23 p1_0 p1_1 p1_2 p1_3 p1_4 p1_5 p1_6 p1_7 p1_8 p1_9 p1_10 p1_11 p1_12 p1_13 p1_14 p1_15 p1_16 p1_17 p1_18 p1_19 p1_20 p1_21)) rfl e1).trans (by rw [hb10, hw10]; rfl)) ?_
  obtain ⟨b11, hb11⟩ : ∃ u, u = w2.heap.size := ⟨_, rfl⟩
  obtain ⟨w3, hw11⟩ : ∃ u, u = w2.alloc (.cells (A23 (ByteArray.mk #[]) 0 0 0 false 0 false false 0 0 0 0 Sl.nil 0 0 0 0 false 0 0 0 0) 24) := ⟨_, rfl⟩
  replace h := h b11 w3 hb11 hw11
  refine wpR_val (v := (Value.pointer (some (Addr.mk b11 0 none)))) (w' := w3) rfl rfl rfl ((x_alloc rfl ZV_24).trans (by rw [hb11, hw11]; rfl)) ?_
  refine wpR_nil ?_
  refine wpC_seq ?_
  refine wpC_cut (fun ρ => ρ 2 = (Value.pointer (some (Addr.mk b9 0 none))) ∧ ρ 3 = (Value.pointer (some (Addr.mk b10 0 none))) ∧ ρ 4 = (Value.pointer (some (Addr.mk b11 0 none))) ∧ True) ⟨rfl, rfl, rfl, trivial⟩ ?_
  rintro ρ ⟨e2, e3, e4, -⟩
  refine wpC_region ?_
  obtain ⟨x12, q12, x13, q13, x14, q14, x15, q15, x16, q16, x17, q17, x18, q18, x19, q19, x20, q20, x21, q21, x22, q22, x23, q23, x24, q24, x25, q25, x26, q26, x27, q27, x28, q28, x29, q29, x30, q30, x31, q31, x32, q32, x33, q33, h⟩ := h
  refine wpR_val (v := (V23 x12 x13 x14 x15 x16 x17 x18 x19 x20 x21 x22 x23 x24 x25 x26 x27 x28 x29 x30 x31 x32 x33)) (w' := w3) rfl rfl rfl (x_loadN (S23 x12 x13 x14 x15 x16 x17 x18 x19 x20 x21 x22 x23 x24 x25 x26 x27 x28 x29 x30 x31 x32 x33) rfl e2 SH_24 (K23 ⟨q12, q13, q14, q15, q16, q17, q18, q19, q20, q21, q22, q23, q24, q25, q26, q27, q28, q29, q30, q31, q32, q33⟩)) ?_
  obtain ⟨b34, hb34⟩ : ∃ u, u = w3.heap.size := ⟨_, rfl⟩
  obtain ⟨w4, hw34⟩ : ∃ u, u = w3.alloc (.cells (A23 (ByteArray.mk #[]) 0 0 0 false 0 false false 0 0 0 0 Sl.nil 0 0 0 0 false 0 0 0 0) 24) := ⟨_, rfl⟩
  replace h := h b34 w4 hb34 hw34
  refine wpR_val (v := (Value.pointer (some (Addr.mk b34 0 none)))) (w' := w4) rfl rfl rfl ((x_alloc rfl ZV_24).trans (by rw [hb34, hw34]; rfl)) ?_
  obtain ⟨q35, h⟩ := h
  obtain ⟨w5, hw35⟩ : ∃ u, u = setAll w4 (Addr.mk b34 0 none) (S23 x12 x13 x14 x15 x16 x17 x18 x19 x20 x21 x22 x23 x24 x25 x26 x27 x28 x29 x30 x31 x32 x33) 0 := ⟨_, rfl⟩
  replace h := h w5 hw35
  refine wpR_skp (w' := w5) rfl rfl ((x_store (v := (V23 x12 x13 x14 x15 x16 x17 x18 x19 x20 x21 x22 x23 x24 x25 x26 x27 x28 x29 x30 x31 x32 x33)) rfl rfl rfl SZ_24 (ones (by rfl)) q35).trans (by rw [hw35]; rfl)) ?_
  refine wpR_nil ?_
  refine wpC_seq ?_
  refine wpC_cut (fun ρ => ρ 2 = (Value.pointer (some (Addr.mk b9 0 none))) ∧ ρ 3 = (Value.pointer (some (Addr.mk b10 0 none))) ∧ ρ 4 = (Value.pointer (some (Addr.mk b11 0 none))) ∧ ρ 5 = (Value.pointer (some (Addr.mk b34 0 none))) ∧ True) ⟨e2, e3, e4, rfl, trivial⟩ ?_
  rintro ρ ⟨e2, e3, e4, e5, -⟩
  obtain ⟨J37, h, hk⟩ := h
  refine wpC_drawJ (by kernel_rfl) (fun (x : Unit) ρ => ρ 2 = (Value.pointer (some (Addr.mk b9 0 none))) ∧ ρ 3 = (Value.pointer (some (Addr.mk b10 0 none))) ∧ ρ 4 = (Value.pointer (some (Addr.mk b11 0 none))) ∧ ρ 5 = (Value.pointer (some (Addr.mk b34 0 none))) ∧ True) J37 ?_ ?_
  · clear hk
    unfold tk at h
    generalize w5.drew = w6 at h ⊢
    refine wpD_take (v := (Value.pointer (some ((Addr.mk b9 0 none).add 1)))) 0 (fun _ => True) rfl (by kernel_rfl) (by kernel_rfl) (by kernel_rfl) rfl rfl rfl trivial (fun w _ => (x_fieldAddr rfl e2 FA_24_1)) ?_
    obtain ⟨x38, q38, h⟩ := h
    refine wpD_take (v := (Value.int .i64 x38)) 1 (fun w => w.cell? ((Addr.mk b9 0 none).add 1) = some (Value.int .i64 x38)) rfl (by kernel_rfl) (by kernel_rfl) (by kernel_rfl) rfl rfl rfl q38 (fun w q38 => (x_load1 rfl rfl SH_3 q38)) ?_
    refine wpD_take (v := (Value.pointer (some ((Addr.mk b10 0 none).add 1)))) 2 (fun _ => True) rfl (by kernel_rfl) (by kernel_rfl) (by kernel_rfl) rfl rfl rfl trivial (fun w _ => (x_fieldAddr rfl e3 FA_24_1)) ?_
    obtain ⟨x39, q39, h⟩ := h
    refine wpD_take (v := (Value.int .i64 x39)) 3 (fun w => w.cell? ((Addr.mk b10 0 none).add 1) = some (Value.int .i64 x39)) rfl (by kernel_rfl) (by kernel_rfl) (by kernel_rfl) rfl rfl rfl q39 (fun w q39 => (x_load1 rfl rfl SH_3 q39)) ?_
    refine wpD_take (v := (Value.int .i64 (max x38 x39))) 4 (fun _ => True) rfl (by kernel_rfl) (by kernel_rfl) (by kernel_rfl) rfl rfl rfl trivial (fun w _ => (x_max rfl rfl rfl)) ?_
    refine wpD_take (v := (Value.pointer (some ((Addr.mk b9 0 none).add 3)))) 5 (fun _ => True) rfl (by kernel_rfl) (by kernel_rfl) (by kernel_rfl) rfl rfl rfl trivial (fun w _ => (x_fieldAddr rfl e2 FA_24_3)) ?_
    obtain ⟨x40, q40, h⟩ := h
    refine wpD_take (v := (Value.int .i64 x40)) 6 (fun w => w.cell? ((Addr.mk b9 0 none).add 3) = some (Value.int .i64 x40)) rfl (by kernel_rfl) (by kernel_rfl) (by kernel_rfl) rfl rfl rfl q40 (fun w q40 => (x_load1 rfl rfl SH_3 q40)) ?_
    refine wpD_take (v := (Value.pointer (some ((Addr.mk b10 0 none).add 3)))) 7 (fun _ => True) rfl (by kernel_rfl) (by kernel_rfl) (by kernel_rfl) rfl rfl rfl trivial (fun w _ => (x_fieldAddr rfl e3 FA_24_3)) ?_
    obtain ⟨x41, q41, h⟩ := h
    refine wpD_take (v := (Value.int .i64 x41)) 8 (fun w => w.cell? ((Addr.mk b10 0 none).add 3) = some (Value.int .i64 x41)) rfl (by kernel_rfl) (by kernel_rfl) (by kernel_rfl) rfl rfl rfl q41 (fun w q41 => (x_load1 rfl rfl SH_3 q41)) ?_
    refine wpD_take (v := (Value.int .i64 (max x40 x41))) 9 (fun _ => True) rfl (by kernel_rfl) (by kernel_rfl) (by kernel_rfl) rfl rfl rfl trivial (fun w _ => (x_max rfl rfl rfl)) ?_
    refine wpD_take (v := (Value.pointer (some ((Addr.mk b9 0 none).add 5)))) 10 (fun _ => True) rfl (by kernel_rfl) (by kernel_rfl) (by kernel_rfl) rfl rfl rfl trivial (fun w _ => (x_fieldAddr rfl e2 FA_24_5)) ?_
    obtain ⟨x42, q42, h⟩ := h
    refine wpD_take (v := (Value.int .i64 x42)) 11 (fun w => w.cell? ((Addr.mk b9 0 none).add 5) = some (Value.int .i64 x42)) rfl (by kernel_rfl) (by kernel_rfl) (by kernel_rfl) rfl rfl rfl q42 (fun w q42 => (x_load1 rfl rfl SH_3 q42)) ?_
    refine wpD_take (v := (Value.pointer (some ((Addr.mk b10 0 none).add 5)))) 12 (fun _ => True) rfl (by kernel_rfl) (by kernel_rfl) (by kernel_rfl) rfl rfl rfl trivial (fun w _ => (x_fieldAddr rfl e3 FA_24_5)) ?_
    obtain ⟨x43, q43, h⟩ := h
    refine wpD_take (v := (Value.int .i64 x43)) 13 (fun w => w.cell? ((Addr.mk b10 0 none).add 5) = some (Value.int .i64 x43)) rfl (by kernel_rfl) (by kernel_rfl) (by kernel_rfl) rfl rfl rfl q43 (fun w q43 => (x_load1 rfl rfl SH_3 q43)) ?_
    refine wpD_take (v := (Value.int .i64 (max x42 x43))) 14 (fun _ => True) rfl (by kernel_rfl) (by kernel_rfl) (by kernel_rfl) rfl rfl rfl trivial (fun w _ => (x_max rfl rfl rfl)) ?_
    refine wpD_take (v := (Value.pointer (some ((Addr.mk b34 0 none).add 1)))) 15 (fun _ => True) rfl (by kernel_rfl) (by kernel_rfl) (by kernel_rfl) rfl rfl rfl trivial (fun w _ => (x_fieldAddr rfl e5 FA_24_1)) ?_
    refine wpD_all (rs := [16]) (by kernel_rfl) (by simp) (allD_cons ?_ allD_nil)
    obtain ⟨q44, h⟩ := h
    obtain ⟨w7, hw44⟩ : ∃ u, u = setAll w6 ((Addr.mk b34 0 none).add 1) [(Value.int .i64 (max x38 x39))] 0 := ⟨_, rfl⟩
    replace h := h w7 hw44
    obtain ⟨o13, h⟩ := h
    obtain ⟨o11, h⟩ := h
    obtain ⟨o8, h⟩ := h
    obtain ⟨o6, h⟩ := h
    refine stepD_skpL (L' := [(14, fun _ => True), (13, fun w => w.cell? ((Addr.mk b10 0 none).add 5) = some (Value.int .i64 x43)), (12, fun _ => True), (11, fun w => w.cell? ((Addr.mk b9 0 none).add 5) = some (Value.int .i64 x42)), (10, fun _ => True), (9, fun _ => True), (8, fun w => w.cell? ((Addr.mk b10 0 none).add 3) = some (Value.int .i64 x41)), (7, fun _ => True), (6, fun w => w.cell? ((Addr.mk b9 0 none).add 3) = some (Value.int .i64 x40)), (5, fun _ => True)]) (w' := w7) rfl rfl rfl ((x_store (v := (Value.int .i64 (max x38 x39))) rfl rfl rfl SZ_3 (ones (by rfl)) q44).trans (by rw [hw44]; rfl)) (by kernel_rfl) (held_cons trivial (held_cons o13 (held_cons trivial (held_cons o11 (held_cons trivial (held_cons trivial (held_cons o8 (held_cons trivial (held_cons o6 (held_cons trivial held_nil)))))))))) ?_
    refine wpD_take (v := (Value.pointer (some ((Addr.mk b34 0 none).add 3)))) 17 (fun _ => True) rfl (by kernel_rfl) (by kernel_rfl) (by kernel_rfl) rfl rfl rfl trivial (fun w _ => (x_fieldAddr rfl e5 FA_24_3)) ?_
    refine wpD_all (rs := [18]) (by kernel_rfl) (by simp) (allD_cons ?_ allD_nil)
    obtain ⟨q45, h⟩ := h
    obtain ⟨w8, hw45⟩ : ∃ u, u = setAll w7 ((Addr.mk b34 0 none).add 3) [(Value.int .i64 (max x40 x41))] 0 := ⟨_, rfl⟩
    replace h := h w8 hw45
    obtain ⟨o13, h⟩ := h
    obtain ⟨o11, h⟩ := h
    refine stepD_skpL (L' := [(14, fun _ => True), (13, fun w => w.cell? ((Addr.mk b10 0 none).add 5) = some (Value.int .i64 x43)), (12, fun _ => True), (11, fun w => w.cell? ((Addr.mk b9 0 none).add 5) = some (Value.int .i64 x42)), (10, fun _ => True)]) (w' := w8) rfl rfl rfl ((x_store (v := (Value.int .i64 (max x40 x41))) rfl rfl rfl SZ_3 (ones (by rfl)) q45).trans (by rw [hw45]; rfl)) (by kernel_rfl) (held_cons trivial (held_cons o13 (held_cons trivial (held_cons o11 (held_cons trivial held_nil))))) ?_
    refine wpD_take (v := (Value.pointer (some ((Addr.mk b34 0 none).add 5)))) 19 (fun _ => True) rfl (by kernel_rfl) (by kernel_rfl) (by kernel_rfl) rfl rfl rfl trivial (fun w _ => (x_fieldAddr rfl e5 FA_24_5)) ?_
    refine wpD_all (rs := [20]) (by kernel_rfl) (by simp) (allD_cons ?_ allD_nil)
    obtain ⟨q46, h⟩ := h
    obtain ⟨w9, hw46⟩ : ∃ u, u = setAll w8 ((Addr.mk b34 0 none).add 5) [(Value.int .i64 (max x42 x43))] 0 := ⟨_, rfl⟩
    replace h := h w9 hw46
    refine stepD_skpL (L' := []) (w' := w9) rfl rfl rfl ((x_store (v := (Value.int .i64 (max x42 x43))) rfl rfl rfl SZ_3 (ones (by rfl)) q46).trans (by rw [hw46]; rfl)) (by kernel_rfl) held_nil ?_
    exact wpD_done (by kernel_rfl) ⟨(), ⟨e2, e3, e4, e5, trivial⟩, h⟩
  clear h
  rintro l47 ρ w10 ⟨e2, e3, e4, e5, -⟩ h
  replace h := hk l47 w10 h
  clear hk
  refine wpC_seq ?_
  obtain ⟨J49, h, hk⟩ := h
  refine wpC_drawJ (by kernel_rfl) (fun (x : Unit) ρ => ρ 2 = (Value.pointer (some (Addr.mk b9 0 none))) ∧ ρ 3 = (Value.pointer (some (Addr.mk b10 0 none))) ∧ ρ 4 = (Value.pointer (some (Addr.mk b11 0 none))) ∧ ρ 5 = (Value.pointer (some (Addr.mk b34 0 none))) ∧ True) J49 ?_ ?_
  · clear hk
    unfold tk at h
    generalize w10.drew = w11 at h ⊢
    refine wpD_take (v := (Value.pointer (some ((Addr.mk b9 0 none).add 4)))) 0 (fun _ => True) rfl (by kernel_rfl) (by kernel_rfl) (by kernel_rfl) rfl rfl rfl trivial (fun w _ => (x_fieldAddr rfl e2 FA_24_4)) ?_
    obtain ⟨x50, q50, h⟩ := h
    refine wpD_take (v := (Value.bool x50)) 1 (fun w => w.cell? ((Addr.mk b9 0 none).add 4) = some (Value.bool x50)) rfl (by kernel_rfl) (by kernel_rfl) (by kernel_rfl) rfl rfl rfl q50 (fun w q50 => (x_load1 rfl rfl SH_4 q50)) ?_
    refine wpD_take (v := (Value.bool x50)) 2 (fun _ => True) rfl (by kernel_rfl) (by kernel_rfl) (by kernel_rfl) rfl rfl rfl trivial (fun w _ => (x_move (v := (Value.bool x50)) rfl rfl)) ?_
    rcases Bool.eq_false_or_eq_true (x50) with hc51 | hc51
    · replace h := h.1 hc51
      refine wpD_pass 3 rfl (by kernel_rfl) (by kernel_rfl) (by kernel_rfl) (wantN rfl rfl rfl hc51) rfl rfl ?_
      refine wpD_pass 4 rfl (by kernel_rfl) (by kernel_rfl) (by kernel_rfl) (wantN rfl rfl rfl hc51) rfl rfl ?_
      refine wpD_take (v := (Value.bool true)) 5 (fun _ => True) rfl (by kernel_rfl) (by kernel_rfl) (by kernel_rfl) rfl rfl rfl trivial (fun w _ => (x_pickT (v := (Value.bool true)) rfl rfl hc51 rfl)) ?_
      refine wpD_take (v := (Value.pointer (some ((Addr.mk b9 0 none).add 6)))) 6 (fun _ => True) rfl (by kernel_rfl) (by kernel_rfl) (by kernel_rfl) rfl rfl rfl trivial (fun w _ => (x_fieldAddr rfl e2 FA_24_6)) ?_
      obtain ⟨x52, q52, h⟩ := h
      refine wpD_take (v := (Value.bool x52)) 7 (fun w => w.cell? ((Addr.mk b9 0 none).add 6) = some (Value.bool x52)) rfl (by kernel_rfl) (by kernel_rfl) (by kernel_rfl) rfl rfl rfl q52 (fun w q52 => (x_load1 rfl rfl SH_4 q52)) ?_
      refine wpD_take (v := (Value.bool x52)) 8 (fun _ => True) rfl (by kernel_rfl) (by kernel_rfl) (by kernel_rfl) rfl rfl rfl trivial (fun w _ => (x_move (v := (Value.bool x52)) rfl rfl)) ?_
      rcases Bool.eq_false_or_eq_true (x52) with hc53 | hc53
      · replace h := h.1 hc53
        refine wpD_pass 9 rfl (by kernel_rfl) (by kernel_rfl) (by kernel_rfl) (wantN rfl rfl rfl hc53) rfl rfl ?_
        refine wpD_pass 10 rfl (by kernel_rfl) (by kernel_rfl) (by kernel_rfl) (wantN rfl rfl rfl hc53) rfl rfl ?_
        refine wpD_take (v := (Value.bool true)) 11 (fun _ => True) rfl (by kernel_rfl) (by kernel_rfl) (by kernel_rfl) rfl rfl rfl trivial (fun w _ => (x_pickT (v := (Value.bool true)) rfl rfl hc53 rfl)) ?_
        refine wpD_take (v := (Value.pointer (some ((Addr.mk b9 0 none).add 7)))) 12 (fun _ => True) rfl (by kernel_rfl) (by kernel_rfl) (by kernel_rfl) rfl rfl rfl trivial (fun w _ => (x_fieldAddr rfl e2 FA_24_7)) ?_
        obtain ⟨x54, q54, h⟩ := h
        refine wpD_take (v := (Value.bool x54)) 13 (fun w => w.cell? ((Addr.mk b9 0 none).add 7) = some (Value.bool x54)) rfl (by kernel_rfl) (by kernel_rfl) (by kernel_rfl) rfl rfl rfl q54 (fun w q54 => (x_load1 rfl rfl SH_4 q54)) ?_
        refine wpD_take (v := (Value.bool x54)) 14 (fun _ => True) rfl (by kernel_rfl) (by kernel_rfl) (by kernel_rfl) rfl rfl rfl trivial (fun w _ => (x_move (v := (Value.bool x54)) rfl rfl)) ?_
        rcases Bool.eq_false_or_eq_true (x54) with hc55 | hc55
        · replace h := h.1 hc55
          refine wpD_pass 15 rfl (by kernel_rfl) (by kernel_rfl) (by kernel_rfl) (wantN rfl rfl rfl hc55) rfl rfl ?_
          refine wpD_pass 16 rfl (by kernel_rfl) (by kernel_rfl) (by kernel_rfl) (wantN rfl rfl rfl hc55) rfl rfl ?_
          refine wpD_take (v := (Value.bool true)) 17 (fun _ => True) rfl (by kernel_rfl) (by kernel_rfl) (by kernel_rfl) rfl rfl rfl trivial (fun w _ => (x_pickT (v := (Value.bool true)) rfl rfl hc55 rfl)) ?_
          refine wpD_take (v := (Value.pointer (some ((Addr.mk b34 0 none).add 4)))) 18 (fun _ => True) rfl (by kernel_rfl) (by kernel_rfl) (by kernel_rfl) rfl rfl rfl trivial (fun w _ => (x_fieldAddr rfl e5 FA_24_4)) ?_
          refine wpD_all (rs := [19]) (by kernel_rfl) (by simp) (allD_cons ?_ allD_nil)
          obtain ⟨q56, h⟩ := h
          obtain ⟨w12, hw56⟩ : ∃ u, u = setAll w11 ((Addr.mk b34 0 none).add 4) [(Value.bool true)] 0 := ⟨_, rfl⟩
          replace h := h w12 hw56
          obtain ⟨o13, h⟩ := h
          obtain ⟨o7, h⟩ := h
          refine stepD_skpL (L' := [(17, fun _ => True), (16, fun _ => True), (15, fun _ => True), (13, fun w => w.cell? ((Addr.mk b9 0 none).add 7) = some (Value.bool x54)), (12, fun _ => True), (11, fun _ => True), (10, fun _ => True), (9, fun _ => True), (8, fun _ => True), (7, fun w => w.cell? ((Addr.mk b9 0 none).add 6) = some (Value.bool x52)), (6, fun _ => True)]) (w' := w12) rfl rfl rfl ((x_store (v := (Value.bool true)) rfl rfl rfl SZ_4 (ones (by rfl)) q56).trans (by rw [hw56]; rfl)) (by kernel_rfl) (held_cons trivial (held_cons trivial (held_cons trivial (held_cons o13 (held_cons trivial (held_cons trivial (held_cons trivial (held_cons trivial (held_cons trivial (held_cons o7 (held_cons trivial held_nil))))))))))) ?_
          refine wpD_take (v := (Value.pointer (some ((Addr.mk b34 0 none).add 6)))) 20 (fun _ => True) rfl (by kernel_rfl) (by kernel_rfl) (by kernel_rfl) rfl rfl rfl trivial (fun w _ => (x_fieldAddr rfl e5 FA_24_6)) ?_
          refine wpD_all (rs := [21]) (by kernel_rfl) (by simp) (allD_cons ?_ allD_nil)
          obtain ⟨q57, h⟩ := h
          obtain ⟨w13, hw57⟩ : ∃ u, u = setAll w12 ((Addr.mk b34 0 none).add 6) [(Value.bool true)] 0 := ⟨_, rfl⟩
          replace h := h w13 hw57
          obtain ⟨o13, h⟩ := h
          refine stepD_skpL (L' := [(17, fun _ => True), (16, fun _ => True), (15, fun _ => True), (13, fun w => w.cell? ((Addr.mk b9 0 none).add 7) = some (Value.bool x54)), (12, fun _ => True)]) (w' := w13) rfl rfl rfl ((x_store (v := (Value.bool true)) rfl rfl rfl SZ_4 (ones (by rfl)) q57).trans (by rw [hw57]; rfl)) (by kernel_rfl) (held_cons trivial (held_cons trivial (held_cons trivial (held_cons o13 (held_cons trivial held_nil))))) ?_
          refine wpD_take (v := (Value.pointer (some ((Addr.mk b34 0 none).add 7)))) 22 (fun _ => True) rfl (by kernel_rfl) (by kernel_rfl) (by kernel_rfl) rfl rfl rfl trivial (fun w _ => (x_fieldAddr rfl e5 FA_24_7)) ?_
          refine wpD_all (rs := [23]) (by kernel_rfl) (by simp) (allD_cons ?_ allD_nil)
          obtain ⟨q58, h⟩ := h
          obtain ⟨w14, hw58⟩ : ∃ u, u = setAll w13 ((Addr.mk b34 0 none).add 7) [(Value.bool true)] 0 := ⟨_, rfl⟩
          replace h := h w14 hw58
          refine stepD_skpL (L' := []) (w' := w14) rfl rfl rfl ((x_store (v := (Value.bool true)) rfl rfl rfl SZ_4 (ones (by rfl)) q58).trans (by rw [hw58]; rfl)) (by kernel_rfl) held_nil ?_
          exact wpD_done (by kernel_rfl) ⟨(), ⟨e2, e3, e4, e5, trivial⟩, h⟩
        · replace h := h.2 hc55
          refine wpD_take (v := (Value.pointer (some ((Addr.mk b10 0 none).add 7)))) 15 (fun _ => True) rfl (by kernel_rfl) (by kernel_rfl) (by kernel_rfl) (wantG rfl rfl rfl hc55) rfl rfl trivial (fun w _ => (x_fieldAddr rfl e3 FA_24_7)) ?_
          obtain ⟨x59, q59, h⟩ := h
          refine wpD_take (v := (Value.bool x59)) 16 (fun w => w.cell? ((Addr.mk b10 0 none).add 7) = some (Value.bool x59)) rfl (by kernel_rfl) (by kernel_rfl) (by kernel_rfl) (wantG rfl rfl rfl hc55) rfl rfl q59 (fun w q59 => (x_load1 rfl rfl SH_4 q59)) ?_
          refine wpD_take (v := (Value.bool x59)) 17 (fun _ => True) rfl (by kernel_rfl) (by kernel_rfl) (by kernel_rfl) rfl rfl rfl trivial (fun w _ => (x_pickF (v := (Value.bool x59)) rfl rfl hc55 rfl)) ?_
          refine wpD_take (v := (Value.pointer (some ((Addr.mk b34 0 none).add 4)))) 18 (fun _ => True) rfl (by kernel_rfl) (by kernel_rfl) (by kernel_rfl) rfl rfl rfl trivial (fun w _ => (x_fieldAddr rfl e5 FA_24_4)) ?_
          refine wpD_all (rs := [19]) (by kernel_rfl) (by simp) (allD_cons ?_ allD_nil)
          obtain ⟨q60, h⟩ := h
          obtain ⟨w15, hw60⟩ : ∃ u, u = setAll w11 ((Addr.mk b34 0 none).add 4) [(Value.bool true)] 0 := ⟨_, rfl⟩
          replace h := h w15 hw60
          obtain ⟨o16, h⟩ := h
          obtain ⟨o13, h⟩ := h
          obtain ⟨o7, h⟩ := h
          refine stepD_skpL (L' := [(17, fun _ => True), (16, fun w => w.cell? ((Addr.mk b10 0 none).add 7) = some (Value.bool x59)), (15, fun _ => True), (13, fun w => w.cell? ((Addr.mk b9 0 none).add 7) = some (Value.bool x54)), (12, fun _ => True), (11, fun _ => True), (10, fun _ => True), (9, fun _ => True), (8, fun _ => True), (7, fun w => w.cell? ((Addr.mk b9 0 none).add 6) = some (Value.bool x52)), (6, fun _ => True)]) (w' := w15) rfl rfl rfl ((x_store (v := (Value.bool true)) rfl rfl rfl SZ_4 (ones (by rfl)) q60).trans (by rw [hw60]; rfl)) (by kernel_rfl) (held_cons trivial (held_cons o16 (held_cons trivial (held_cons o13 (held_cons trivial (held_cons trivial (held_cons trivial (held_cons trivial (held_cons trivial (held_cons o7 (held_cons trivial held_nil))))))))))) ?_
          refine wpD_take (v := (Value.pointer (some ((Addr.mk b34 0 none).add 6)))) 20 (fun _ => True) rfl (by kernel_rfl) (by kernel_rfl) (by kernel_rfl) rfl rfl rfl trivial (fun w _ => (x_fieldAddr rfl e5 FA_24_6)) ?_
          refine wpD_all (rs := [21]) (by kernel_rfl) (by simp) (allD_cons ?_ allD_nil)
          obtain ⟨q61, h⟩ := h
          obtain ⟨w16, hw61⟩ : ∃ u, u = setAll w15 ((Addr.mk b34 0 none).add 6) [(Value.bool true)] 0 := ⟨_, rfl⟩
          replace h := h w16 hw61
          obtain ⟨o16, h⟩ := h
          obtain ⟨o13, h⟩ := h
          refine stepD_skpL (L' := [(17, fun _ => True), (16, fun w => w.cell? ((Addr.mk b10 0 none).add 7) = some (Value.bool x59)), (15, fun _ => True), (13, fun w => w.cell? ((Addr.mk b9 0 none).add 7) = some (Value.bool x54)), (12, fun _ => True)]) (w' := w16) rfl rfl rfl ((x_store (v := (Value.bool true)) rfl rfl rfl SZ_4 (ones (by rfl)) q61).trans (by rw [hw61]; rfl)) (by kernel_rfl) (held_cons trivial (held_cons o16 (held_cons trivial (held_cons o13 (held_cons trivial held_nil))))) ?_
          refine wpD_take (v := (Value.pointer (some ((Addr.mk b34 0 none).add 7)))) 22 (fun _ => True) rfl (by kernel_rfl) (by kernel_rfl) (by kernel_rfl) rfl rfl rfl trivial (fun w _ => (x_fieldAddr rfl e5 FA_24_7)) ?_
          refine wpD_all (rs := [23]) (by kernel_rfl) (by simp) (allD_cons ?_ allD_nil)
          obtain ⟨q62, h⟩ := h
          obtain ⟨w17, hw62⟩ : ∃ u, u = setAll w16 ((Addr.mk b34 0 none).add 7) [(Value.bool x59)] 0 := ⟨_, rfl⟩
          replace h := h w17 hw62
          refine stepD_skpL (L' := []) (w' := w17) rfl rfl rfl ((x_store (v := (Value.bool x59)) rfl rfl rfl SZ_4 (ones (by rfl)) q62).trans (by rw [hw62]; rfl)) (by kernel_rfl) held_nil ?_
          exact wpD_done (by kernel_rfl) ⟨(), ⟨e2, e3, e4, e5, trivial⟩, h⟩
      · replace h := h.2 hc53
        refine wpD_take (v := (Value.pointer (some ((Addr.mk b10 0 none).add 6)))) 9 (fun _ => True) rfl (by kernel_rfl) (by kernel_rfl) (by kernel_rfl) (wantG rfl rfl rfl hc53) rfl rfl trivial (fun w _ => (x_fieldAddr rfl e3 FA_24_6)) ?_
        obtain ⟨x63, q63, h⟩ := h
        refine wpD_take (v := (Value.bool x63)) 10 (fun w => w.cell? ((Addr.mk b10 0 none).add 6) = some (Value.bool x63)) rfl (by kernel_rfl) (by kernel_rfl) (by kernel_rfl) (wantG rfl rfl rfl hc53) rfl rfl q63 (fun w q63 => (x_load1 rfl rfl SH_4 q63)) ?_
        refine wpD_take (v := (Value.bool x63)) 11 (fun _ => True) rfl (by kernel_rfl) (by kernel_rfl) (by kernel_rfl) rfl rfl rfl trivial (fun w _ => (x_pickF (v := (Value.bool x63)) rfl rfl hc53 rfl)) ?_
        refine wpD_take (v := (Value.pointer (some ((Addr.mk b9 0 none).add 7)))) 12 (fun _ => True) rfl (by kernel_rfl) (by kernel_rfl) (by kernel_rfl) rfl rfl rfl trivial (fun w _ => (x_fieldAddr rfl e2 FA_24_7)) ?_
        obtain ⟨x64, q64, h⟩ := h
        refine wpD_take (v := (Value.bool x64)) 13 (fun w => w.cell? ((Addr.mk b9 0 none).add 7) = some (Value.bool x64)) rfl (by kernel_rfl) (by kernel_rfl) (by kernel_rfl) rfl rfl rfl q64 (fun w q64 => (x_load1 rfl rfl SH_4 q64)) ?_
        refine wpD_take (v := (Value.bool x64)) 14 (fun _ => True) rfl (by kernel_rfl) (by kernel_rfl) (by kernel_rfl) rfl rfl rfl trivial (fun w _ => (x_move (v := (Value.bool x64)) rfl rfl)) ?_
        rcases Bool.eq_false_or_eq_true (x64) with hc65 | hc65
        · replace h := h.1 hc65
          refine wpD_pass 15 rfl (by kernel_rfl) (by kernel_rfl) (by kernel_rfl) (wantN rfl rfl rfl hc65) rfl rfl ?_
          refine wpD_pass 16 rfl (by kernel_rfl) (by kernel_rfl) (by kernel_rfl) (wantN rfl rfl rfl hc65) rfl rfl ?_
          refine wpD_take (v := (Value.bool true)) 17 (fun _ => True) rfl (by kernel_rfl) (by kernel_rfl) (by kernel_rfl) rfl rfl rfl trivial (fun w _ => (x_pickT (v := (Value.bool true)) rfl rfl hc65 rfl)) ?_
          refine wpD_take (v := (Value.pointer (some ((Addr.mk b34 0 none).add 4)))) 18 (fun _ => True) rfl (by kernel_rfl) (by kernel_rfl) (by kernel_rfl) rfl rfl rfl trivial (fun w _ => (x_fieldAddr rfl e5 FA_24_4)) ?_
          refine wpD_all (rs := [19]) (by kernel_rfl) (by simp) (allD_cons ?_ allD_nil)
          obtain ⟨q66, h⟩ := h
          obtain ⟨w18, hw66⟩ : ∃ u, u = setAll w11 ((Addr.mk b34 0 none).add 4) [(Value.bool true)] 0 := ⟨_, rfl⟩
          replace h := h w18 hw66
          obtain ⟨o13, h⟩ := h
          obtain ⟨o10, h⟩ := h
          obtain ⟨o7, h⟩ := h
          refine stepD_skpL (L' := [(17, fun _ => True), (16, fun _ => True), (15, fun _ => True), (13, fun w => w.cell? ((Addr.mk b9 0 none).add 7) = some (Value.bool x64)), (12, fun _ => True), (11, fun _ => True), (10, fun w => w.cell? ((Addr.mk b10 0 none).add 6) = some (Value.bool x63)), (9, fun _ => True), (8, fun _ => True), (7, fun w => w.cell? ((Addr.mk b9 0 none).add 6) = some (Value.bool x52)), (6, fun _ => True)]) (w' := w18) rfl rfl rfl ((x_store (v := (Value.bool true)) rfl rfl rfl SZ_4 (ones (by rfl)) q66).trans (by rw [hw66]; rfl)) (by kernel_rfl) (held_cons trivial (held_cons trivial (held_cons trivial (held_cons o13 (held_cons trivial (held_cons trivial (held_cons o10 (held_cons trivial (held_cons trivial (held_cons o7 (held_cons trivial held_nil))))))))))) ?_
          refine wpD_take (v := (Value.pointer (some ((Addr.mk b34 0 none).add 6)))) 20 (fun _ => True) rfl (by kernel_rfl) (by kernel_rfl) (by kernel_rfl) rfl rfl rfl trivial (fun w _ => (x_fieldAddr rfl e5 FA_24_6)) ?_
          refine wpD_all (rs := [21]) (by kernel_rfl) (by simp) (allD_cons ?_ allD_nil)
          obtain ⟨q67, h⟩ := h
          obtain ⟨w19, hw67⟩ : ∃ u, u = setAll w18 ((Addr.mk b34 0 none).add 6) [(Value.bool x63)] 0 := ⟨_, rfl⟩
          replace h := h w19 hw67
          obtain ⟨o13, h⟩ := h
          refine stepD_skpL (L' := [(17, fun _ => True), (16, fun _ => True), (15, fun _ => True), (13, fun w => w.cell? ((Addr.mk b9 0 none).add 7) = some (Value.bool x64)), (12, fun _ => True)]) (w' := w19) rfl rfl rfl ((x_store (v := (Value.bool x63)) rfl rfl rfl SZ_4 (ones (by rfl)) q67).trans (by rw [hw67]; rfl)) (by kernel_rfl) (held_cons trivial (held_cons trivial (held_cons trivial (held_cons o13 (held_cons trivial held_nil))))) ?_
          refine wpD_take (v := (Value.pointer (some ((Addr.mk b34 0 none).add 7)))) 22 (fun _ => True) rfl (by kernel_rfl) (by kernel_rfl) (by kernel_rfl) rfl rfl rfl trivial (fun w _ => (x_fieldAddr rfl e5 FA_24_7)) ?_
          refine wpD_all (rs := [23]) (by kernel_rfl) (by simp) (allD_cons ?_ allD_nil)
          obtain ⟨q68, h⟩ := h
          obtain ⟨w20, hw68⟩ : ∃ u, u = setAll w19 ((Addr.mk b34 0 none).add 7) [(Value.bool true)] 0 := ⟨_, rfl⟩
          replace h := h w20 hw68
          refine stepD_skpL (L' := []) (w' := w20) rfl rfl rfl ((x_store (v := (Value.bool true)) rfl rfl rfl SZ_4 (ones (by rfl)) q68).trans (by rw [hw68]; rfl)) (by kernel_rfl) held_nil ?_
          exact wpD_done (by kernel_rfl) ⟨(), ⟨e2, e3, e4, e5, trivial⟩, h⟩
        · replace h := h.2 hc65
          refine wpD_take (v := (Value.pointer (some ((Addr.mk b10 0 none).add 7)))) 15 (fun _ => True) rfl (by kernel_rfl) (by kernel_rfl) (by kernel_rfl) (wantG rfl rfl rfl hc65) rfl rfl trivial (fun w _ => (x_fieldAddr rfl e3 FA_24_7)) ?_
          obtain ⟨x69, q69, h⟩ := h
          refine wpD_take (v := (Value.bool x69)) 16 (fun w => w.cell? ((Addr.mk b10 0 none).add 7) = some (Value.bool x69)) rfl (by kernel_rfl) (by kernel_rfl) (by kernel_rfl) (wantG rfl rfl rfl hc65) rfl rfl q69 (fun w q69 => (x_load1 rfl rfl SH_4 q69)) ?_
          refine wpD_take (v := (Value.bool x69)) 17 (fun _ => True) rfl (by kernel_rfl) (by kernel_rfl) (by kernel_rfl) rfl rfl rfl trivial (fun w _ => (x_pickF (v := (Value.bool x69)) rfl rfl hc65 rfl)) ?_
          refine wpD_take (v := (Value.pointer (some ((Addr.mk b34 0 none).add 4)))) 18 (fun _ => True) rfl (by kernel_rfl) (by kernel_rfl) (by kernel_rfl) rfl rfl rfl trivial (fun w _ => (x_fieldAddr rfl e5 FA_24_4)) ?_
          refine wpD_all (rs := [19]) (by kernel_rfl) (by simp) (allD_cons ?_ allD_nil)
          obtain ⟨q70, h⟩ := h
          obtain ⟨w21, hw70⟩ : ∃ u, u = setAll w11 ((Addr.mk b34 0 none).add 4) [(Value.bool true)] 0 := ⟨_, rfl⟩
          replace h := h w21 hw70
          obtain ⟨o16, h⟩ := h
          obtain ⟨o13, h⟩ := h
          obtain ⟨o10, h⟩ := h
          obtain ⟨o7, h⟩ := h
          refine stepD_skpL (L' := [(17, fun _ => True), (16, fun w => w.cell? ((Addr.mk b10 0 none).add 7) = some (Value.bool x69)), (15, fun _ => True), (13, fun w => w.cell? ((Addr.mk b9 0 none).add 7) = some (Value.bool x64)), (12, fun _ => True), (11, fun _ => True), (10, fun w => w.cell? ((Addr.mk b10 0 none).add 6) = some (Value.bool x63)), (9, fun _ => True), (8, fun _ => True), (7, fun w => w.cell? ((Addr.mk b9 0 none).add 6) = some (Value.bool x52)), (6, fun _ => True)]) (w' := w21) rfl rfl rfl ((x_store (v := (Value.bool true)) rfl rfl rfl SZ_4 (ones (by rfl)) q70).trans (by rw [hw70]; rfl)) (by kernel_rfl) (held_cons trivial (held_cons o16 (held_cons trivial (held_cons o13 (held_cons trivial (held_cons trivial (held_cons o10 (held_cons trivial (held_cons trivial (held_cons o7 (held_cons trivial held_nil))))))))))) ?_
          refine wpD_take (v := (Value.pointer (some ((Addr.mk b34 0 none).add 6)))) 20 (fun _ => True) rfl (by kernel_rfl) (by kernel_rfl) (by kernel_rfl) rfl rfl rfl trivial (fun w _ => (x_fieldAddr rfl e5 FA_24_6)) ?_
          refine wpD_all (rs := [21]) (by kernel_rfl) (by simp) (allD_cons ?_ allD_nil)
          obtain ⟨q71, h⟩ := h
          obtain ⟨w22, hw71⟩ : ∃ u, u = setAll w21 ((Addr.mk b34 0 none).add 6) [(Value.bool x63)] 0 := ⟨_, rfl⟩
          replace h := h w22 hw71
          obtain ⟨o16, h⟩ := h
          obtain ⟨o13, h⟩ := h
          refine stepD_skpL (L' := [(17, fun _ => True), (16, fun w => w.cell? ((Addr.mk b10 0 none).add 7) = some (Value.bool x69)), (15, fun _ => True), (13, fun w => w.cell? ((Addr.mk b9 0 none).add 7) = some (Value.bool x64)), (12, fun _ => True)]) (w' := w22) rfl rfl rfl ((x_store (v := (Value.bool x63)) rfl rfl rfl SZ_4 (ones (by rfl)) q71).trans (by rw [hw71]; rfl)) (by kernel_rfl) (held_cons trivial (held_cons o16 (held_cons trivial (held_cons o13 (held_cons trivial held_nil))))) ?_
          refine wpD_take (v := (Value.pointer (some ((Addr.mk b34 0 none).add 7)))) 22 (fun _ => True) rfl (by kernel_rfl) (by kernel_rfl) (by kernel_rfl) rfl rfl rfl trivial (fun w _ => (x_fieldAddr rfl e5 FA_24_7)) ?_
          refine wpD_all (rs := [23]) (by kernel_rfl) (by simp) (allD_cons ?_ allD_nil)
          obtain ⟨q72, h⟩ := h
          obtain ⟨w23, hw72⟩ : ∃ u, u = setAll w22 ((Addr.mk b34 0 none).add 7) [(Value.bool x69)] 0 := ⟨_, rfl⟩
          replace h := h w23 hw72
          refine stepD_skpL (L' := []) (w' := w23) rfl rfl rfl ((x_store (v := (Value.bool x69)) rfl rfl rfl SZ_4 (ones (by rfl)) q72).trans (by rw [hw72]; rfl)) (by kernel_rfl) held_nil ?_
          exact wpD_done (by kernel_rfl) ⟨(), ⟨e2, e3, e4, e5, trivial⟩, h⟩
    · replace h := h.2 hc51
      refine wpD_take (v := (Value.pointer (some ((Addr.mk b10 0 none).add 4)))) 3 (fun _ => True) rfl (by kernel_rfl) (by kernel_rfl) (by kernel_rfl) (wantG rfl rfl rfl hc51) rfl rfl trivial (fun w _ => (x_fieldAddr rfl e3 FA_24_4)) ?_
      obtain ⟨x73, q73, h⟩ := h
      refine wpD_take (v := (Value.bool x73)) 4 (fun w => w.cell? ((Addr.mk b10 0 none).add 4) = some (Value.bool x73)) rfl (by kernel_rfl) (by kernel_rfl) (by kernel_rfl) (wantG rfl rfl rfl hc51) rfl rfl q73 (fun w q73 => (x_load1 rfl rfl SH_4 q73)) ?_
      refine wpD_take (v := (Value.bool x73)) 5 (fun _ => True) rfl (by kernel_rfl) (by kernel_rfl) (by kernel_rfl) rfl rfl rfl trivial (fun w _ => (x_pickF (v := (Value.bool x73)) rfl rfl hc51 rfl)) ?_
      refine wpD_take (v := (Value.pointer (some ((Addr.mk b9 0 none).add 6)))) 6 (fun _ => True) rfl (by kernel_rfl) (by kernel_rfl) (by kernel_rfl) rfl rfl rfl trivial (fun w _ => (x_fieldAddr rfl e2 FA_24_6)) ?_
      obtain ⟨x74, q74, h⟩ := h
      refine wpD_take (v := (Value.bool x74)) 7 (fun w => w.cell? ((Addr.mk b9 0 none).add 6) = some (Value.bool x74)) rfl (by kernel_rfl) (by kernel_rfl) (by kernel_rfl) rfl rfl rfl q74 (fun w q74 => (x_load1 rfl rfl SH_4 q74)) ?_
      refine wpD_take (v := (Value.bool x74)) 8 (fun _ => True) rfl (by kernel_rfl) (by kernel_rfl) (by kernel_rfl) rfl rfl rfl trivial (fun w _ => (x_move (v := (Value.bool x74)) rfl rfl)) ?_
      rcases Bool.eq_false_or_eq_true (x74) with hc75 | hc75
      · replace h := h.1 hc75
        refine wpD_pass 9 rfl (by kernel_rfl) (by kernel_rfl) (by kernel_rfl) (wantN rfl rfl rfl hc75) rfl rfl ?_
        refine wpD_pass 10 rfl (by kernel_rfl) (by kernel_rfl) (by kernel_rfl) (wantN rfl rfl rfl hc75) rfl rfl ?_
        refine wpD_take (v := (Value.bool true)) 11 (fun _ => True) rfl (by kernel_rfl) (by kernel_rfl) (by kernel_rfl) rfl rfl rfl trivial (fun w _ => (x_pickT (v := (Value.bool true)) rfl rfl hc75 rfl)) ?_
        refine wpD_take (v := (Value.pointer (some ((Addr.mk b9 0 none).add 7)))) 12 (fun _ => True) rfl (by kernel_rfl) (by kernel_rfl) (by kernel_rfl) rfl rfl rfl trivial (fun w _ => (x_fieldAddr rfl e2 FA_24_7)) ?_
        obtain ⟨x76, q76, h⟩ := h
        refine wpD_take (v := (Value.bool x76)) 13 (fun w => w.cell? ((Addr.mk b9 0 none).add 7) = some (Value.bool x76)) rfl (by kernel_rfl) (by kernel_rfl) (by kernel_rfl) rfl rfl rfl q76 (fun w q76 => (x_load1 rfl rfl SH_4 q76)) ?_
        refine wpD_take (v := (Value.bool x76)) 14 (fun _ => True) rfl (by kernel_rfl) (by kernel_rfl) (by kernel_rfl) rfl rfl rfl trivial (fun w _ => (x_move (v := (Value.bool x76)) rfl rfl)) ?_
        rcases Bool.eq_false_or_eq_true (x76) with hc77 | hc77
        · replace h := h.1 hc77
          refine wpD_pass 15 rfl (by kernel_rfl) (by kernel_rfl) (by kernel_rfl) (wantN rfl rfl rfl hc77) rfl rfl ?_
          refine wpD_pass 16 rfl (by kernel_rfl) (by kernel_rfl) (by kernel_rfl) (wantN rfl rfl rfl hc77) rfl rfl ?_
          refine wpD_take (v := (Value.bool true)) 17 (fun _ => True) rfl (by kernel_rfl) (by kernel_rfl) (by kernel_rfl) rfl rfl rfl trivial (fun w _ => (x_pickT (v := (Value.bool true)) rfl rfl hc77 rfl)) ?_
          refine wpD_take (v := (Value.pointer (some ((Addr.mk b34 0 none).add 4)))) 18 (fun _ => True) rfl (by kernel_rfl) (by kernel_rfl) (by kernel_rfl) rfl rfl rfl trivial (fun w _ => (x_fieldAddr rfl e5 FA_24_4)) ?_
          refine wpD_all (rs := [19]) (by kernel_rfl) (by simp) (allD_cons ?_ allD_nil)
          obtain ⟨q78, h⟩ := h
          obtain ⟨w24, hw78⟩ : ∃ u, u = setAll w11 ((Addr.mk b34 0 none).add 4) [(Value.bool x73)] 0 := ⟨_, rfl⟩
          replace h := h w24 hw78
          obtain ⟨o13, h⟩ := h
          obtain ⟨o7, h⟩ := h
          refine stepD_skpL (L' := [(17, fun _ => True), (16, fun _ => True), (15, fun _ => True), (13, fun w => w.cell? ((Addr.mk b9 0 none).add 7) = some (Value.bool x76)), (12, fun _ => True), (11, fun _ => True), (10, fun _ => True), (9, fun _ => True), (8, fun _ => True), (7, fun w => w.cell? ((Addr.mk b9 0 none).add 6) = some (Value.bool x74)), (6, fun _ => True)]) (w' := w24) rfl rfl rfl ((x_store (v := (Value.bool x73)) rfl rfl rfl SZ_4 (ones (by rfl)) q78).trans (by rw [hw78]; rfl)) (by kernel_rfl) (held_cons trivial (held_cons trivial (held_cons trivial (held_cons o13 (held_cons trivial (held_cons trivial (held_cons trivial (held_cons trivial (held_cons trivial (held_cons o7 (held_cons trivial held_nil))))))))))) ?_
          refine wpD_take (v := (Value.pointer (some ((Addr.mk b34 0 none).add 6)))) 20 (fun _ => True) rfl (by kernel_rfl) (by kernel_rfl) (by kernel_rfl) rfl rfl rfl trivial (fun w _ => (x_fieldAddr rfl e5 FA_24_6)) ?_
          refine wpD_all (rs := [21]) (by kernel_rfl) (by simp) (allD_cons ?_ allD_nil)
          obtain ⟨q79, h⟩ := h
          obtain ⟨w25, hw79⟩ : ∃ u, u = setAll w24 ((Addr.mk b34 0 none).add 6) [(Value.bool true)] 0 := ⟨_, rfl⟩
          replace h := h w25 hw79
          obtain ⟨o13, h⟩ := h
          refine stepD_skpL (L' := [(17, fun _ => True), (16, fun _ => True), (15, fun _ => True), (13, fun w => w.cell? ((Addr.mk b9 0 none).add 7) = some (Value.bool x76)), (12, fun _ => True)]) (w' := w25) rfl rfl rfl ((x_store (v := (Value.bool true)) rfl rfl rfl SZ_4 (ones (by rfl)) q79).trans (by rw [hw79]; rfl)) (by kernel_rfl) (held_cons trivial (held_cons trivial (held_cons trivial (held_cons o13 (held_cons trivial held_nil))))) ?_
          refine wpD_take (v := (Value.pointer (some ((Addr.mk b34 0 none).add 7)))) 22 (fun _ => True) rfl (by kernel_rfl) (by kernel_rfl) (by kernel_rfl) rfl rfl rfl trivial (fun w _ => (x_fieldAddr rfl e5 FA_24_7)) ?_
          refine wpD_all (rs := [23]) (by kernel_rfl) (by simp) (allD_cons ?_ allD_nil)
          obtain ⟨q80, h⟩ := h
          obtain ⟨w26, hw80⟩ : ∃ u, u = setAll w25 ((Addr.mk b34 0 none).add 7) [(Value.bool true)] 0 := ⟨_, rfl⟩
          replace h := h w26 hw80
          refine stepD_skpL (L' := []) (w' := w26) rfl rfl rfl ((x_store (v := (Value.bool true)) rfl rfl rfl SZ_4 (ones (by rfl)) q80).trans (by rw [hw80]; rfl)) (by kernel_rfl) held_nil ?_
          exact wpD_done (by kernel_rfl) ⟨(), ⟨e2, e3, e4, e5, trivial⟩, h⟩
        · replace h := h.2 hc77
          refine wpD_take (v := (Value.pointer (some ((Addr.mk b10 0 none).add 7)))) 15 (fun _ => True) rfl (by kernel_rfl) (by kernel_rfl) (by kernel_rfl) (wantG rfl rfl rfl hc77) rfl rfl trivial (fun w _ => (x_fieldAddr rfl e3 FA_24_7)) ?_
          obtain ⟨x81, q81, h⟩ := h
          refine wpD_take (v := (Value.bool x81)) 16 (fun w => w.cell? ((Addr.mk b10 0 none).add 7) = some (Value.bool x81)) rfl (by kernel_rfl) (by kernel_rfl) (by kernel_rfl) (wantG rfl rfl rfl hc77) rfl rfl q81 (fun w q81 => (x_load1 rfl rfl SH_4 q81)) ?_
          refine wpD_take (v := (Value.bool x81)) 17 (fun _ => True) rfl (by kernel_rfl) (by kernel_rfl) (by kernel_rfl) rfl rfl rfl trivial (fun w _ => (x_pickF (v := (Value.bool x81)) rfl rfl hc77 rfl)) ?_
          refine wpD_take (v := (Value.pointer (some ((Addr.mk b34 0 none).add 4)))) 18 (fun _ => True) rfl (by kernel_rfl) (by kernel_rfl) (by kernel_rfl) rfl rfl rfl trivial (fun w _ => (x_fieldAddr rfl e5 FA_24_4)) ?_
          refine wpD_all (rs := [19]) (by kernel_rfl) (by simp) (allD_cons ?_ allD_nil)
          obtain ⟨q82, h⟩ := h
          obtain ⟨w27, hw82⟩ : ∃ u, u = setAll w11 ((Addr.mk b34 0 none).add 4) [(Value.bool x73)] 0 := ⟨_, rfl⟩
          replace h := h w27 hw82
          obtain ⟨o16, h⟩ := h
          obtain ⟨o13, h⟩ := h
          obtain ⟨o7, h⟩ := h
          refine stepD_skpL (L' := [(17, fun _ => True), (16, fun w => w.cell? ((Addr.mk b10 0 none).add 7) = some (Value.bool x81)), (15, fun _ => True), (13, fun w => w.cell? ((Addr.mk b9 0 none).add 7) = some (Value.bool x76)), (12, fun _ => True), (11, fun _ => True), (10, fun _ => True), (9, fun _ => True), (8, fun _ => True), (7, fun w => w.cell? ((Addr.mk b9 0 none).add 6) = some (Value.bool x74)), (6, fun _ => True)]) (w' := w27) rfl rfl rfl ((x_store (v := (Value.bool x73)) rfl rfl rfl SZ_4 (ones (by rfl)) q82).trans (by rw [hw82]; rfl)) (by kernel_rfl) (held_cons trivial (held_cons o16 (held_cons trivial (held_cons o13 (held_cons trivial (held_cons trivial (held_cons trivial (held_cons trivial (held_cons trivial (held_cons o7 (held_cons trivial held_nil))))))))))) ?_
          refine wpD_take (v := (Value.pointer (some ((Addr.mk b34 0 none).add 6)))) 20 (fun _ => True) rfl (by kernel_rfl) (by kernel_rfl) (by kernel_rfl) rfl rfl rfl trivial (fun w _ => (x_fieldAddr rfl e5 FA_24_6)) ?_
          refine wpD_all (rs := [21]) (by kernel_rfl) (by simp) (allD_cons ?_ allD_nil)
          obtain ⟨q83, h⟩ := h
          obtain ⟨w28, hw83⟩ : ∃ u, u = setAll w27 ((Addr.mk b34 0 none).add 6) [(Value.bool true)] 0 := ⟨_, rfl⟩
          replace h := h w28 hw83
          obtain ⟨o16, h⟩ := h
          obtain ⟨o13, h⟩ := h
          refine stepD_skpL (L' := [(17, fun _ => True), (16, fun w => w.cell? ((Addr.mk b10 0 none).add 7) = some (Value.bool x81)), (15, fun _ => True), (13, fun w => w.cell? ((Addr.mk b9 0 none).add 7) = some (Value.bool x76)), (12, fun _ => True)]) (w' := w28) rfl rfl rfl ((x_store (v := (Value.bool true)) rfl rfl rfl SZ_4 (ones (by rfl)) q83).trans (by rw [hw83]; rfl)) (by kernel_rfl) (held_cons trivial (held_cons o16 (held_cons trivial (held_cons o13 (held_cons trivial held_nil))))) ?_
          refine wpD_take (v := (Value.pointer (some ((Addr.mk b34 0 none).add 7)))) 22 (fun _ => True) rfl (by kernel_rfl) (by kernel_rfl) (by kernel_rfl) rfl rfl rfl trivial (fun w _ => (x_fieldAddr rfl e5 FA_24_7)) ?_
          refine wpD_all (rs := [23]) (by kernel_rfl) (by simp) (allD_cons ?_ allD_nil)
          obtain ⟨q84, h⟩ := h
          obtain ⟨w29, hw84⟩ : ∃ u, u = setAll w28 ((Addr.mk b34 0 none).add 7) [(Value.bool x81)] 0 := ⟨_, rfl⟩
          replace h := h w29 hw84
          refine stepD_skpL (L' := []) (w' := w29) rfl rfl rfl ((x_store (v := (Value.bool x81)) rfl rfl rfl SZ_4 (ones (by rfl)) q84).trans (by rw [hw84]; rfl)) (by kernel_rfl) held_nil ?_
          exact wpD_done (by kernel_rfl) ⟨(), ⟨e2, e3, e4, e5, trivial⟩, h⟩
      · replace h := h.2 hc75
        refine wpD_take (v := (Value.pointer (some ((Addr.mk b10 0 none).add 6)))) 9 (fun _ => True) rfl (by kernel_rfl) (by kernel_rfl) (by kernel_rfl) (wantG rfl rfl rfl hc75) rfl rfl trivial (fun w _ => (x_fieldAddr rfl e3 FA_24_6)) ?_
        obtain ⟨x85, q85, h⟩ := h
        refine wpD_take (v := (Value.bool x85)) 10 (fun w => w.cell? ((Addr.mk b10 0 none).add 6) = some (Value.bool x85)) rfl (by kernel_rfl) (by kernel_rfl) (by kernel_rfl) (wantG rfl rfl rfl hc75) rfl rfl q85 (fun w q85 => (x_load1 rfl rfl SH_4 q85)) ?_
        refine wpD_take (v := (Value.bool x85)) 11 (fun _ => True) rfl (by kernel_rfl) (by kernel_rfl) (by kernel_rfl) rfl rfl rfl trivial (fun w _ => (x_pickF (v := (Value.bool x85)) rfl rfl hc75 rfl)) ?_
        refine wpD_take (v := (Value.pointer (some ((Addr.mk b9 0 none).add 7)))) 12 (fun _ => True) rfl (by kernel_rfl) (by kernel_rfl) (by kernel_rfl) rfl rfl rfl trivial (fun w _ => (x_fieldAddr rfl e2 FA_24_7)) ?_
        obtain ⟨x86, q86, h⟩ := h
        refine wpD_take (v := (Value.bool x86)) 13 (fun w => w.cell? ((Addr.mk b9 0 none).add 7) = some (Value.bool x86)) rfl (by kernel_rfl) (by kernel_rfl) (by kernel_rfl) rfl rfl rfl q86 (fun w q86 => (x_load1 rfl rfl SH_4 q86)) ?_
        refine wpD_take (v := (Value.bool x86)) 14 (fun _ => True) rfl (by kernel_rfl) (by kernel_rfl) (by kernel_rfl) rfl rfl rfl trivial (fun w _ => (x_move (v := (Value.bool x86)) rfl rfl)) ?_
        rcases Bool.eq_false_or_eq_true (x86) with hc87 | hc87
        · replace h := h.1 hc87
          refine wpD_pass 15 rfl (by kernel_rfl) (by kernel_rfl) (by kernel_rfl) (wantN rfl rfl rfl hc87) rfl rfl ?_
          refine wpD_pass 16 rfl (by kernel_rfl) (by kernel_rfl) (by kernel_rfl) (wantN rfl rfl rfl hc87) rfl rfl ?_
          refine wpD_take (v := (Value.bool true)) 17 (fun _ => True) rfl (by kernel_rfl) (by kernel_rfl) (by kernel_rfl) rfl rfl rfl trivial (fun w _ => (x_pickT (v := (Value.bool true)) rfl rfl hc87 rfl)) ?_
          refine wpD_take (v := (Value.pointer (some ((Addr.mk b34 0 none).add 4)))) 18 (fun _ => True) rfl (by kernel_rfl) (by kernel_rfl) (by kernel_rfl) rfl rfl rfl trivial (fun w _ => (x_fieldAddr rfl e5 FA_24_4)) ?_
          refine wpD_all (rs := [19]) (by kernel_rfl) (by simp) (allD_cons ?_ allD_nil)
          obtain ⟨q88, h⟩ := h
          obtain ⟨w30, hw88⟩ : ∃ u, u = setAll w11 ((Addr.mk b34 0 none).add 4) [(Value.bool x73)] 0 := ⟨_, rfl⟩
          replace h := h w30 hw88
          obtain ⟨o13, h⟩ := h
          obtain ⟨o10, h⟩ := h
          obtain ⟨o7, h⟩ := h
          refine stepD_skpL (L' := [(17, fun _ => True), (16, fun _ => True), (15, fun _ => True), (13, fun w => w.cell? ((Addr.mk b9 0 none).add 7) = some (Value.bool x86)), (12, fun _ => True), (11, fun _ => True), (10, fun w => w.cell? ((Addr.mk b10 0 none).add 6) = some (Value.bool x85)), (9, fun _ => True), (8, fun _ => True), (7, fun w => w.cell? ((Addr.mk b9 0 none).add 6) = some (Value.bool x74)), (6, fun _ => True)]) (w' := w30) rfl rfl rfl ((x_store (v := (Value.bool x73)) rfl rfl rfl SZ_4 (ones (by rfl)) q88).trans (by rw [hw88]; rfl)) (by kernel_rfl) (held_cons trivial (held_cons trivial (held_cons trivial (held_cons o13 (held_cons trivial (held_cons trivial (held_cons o10 (held_cons trivial (held_cons trivial (held_cons o7 (held_cons trivial held_nil))))))))))) ?_
          refine wpD_take (v := (Value.pointer (some ((Addr.mk b34 0 none).add 6)))) 20 (fun _ => True) rfl (by kernel_rfl) (by kernel_rfl) (by kernel_rfl) rfl rfl rfl trivial (fun w _ => (x_fieldAddr rfl e5 FA_24_6)) ?_
          refine wpD_all (rs := [21]) (by kernel_rfl) (by simp) (allD_cons ?_ allD_nil)
          obtain ⟨q89, h⟩ := h
          obtain ⟨w31, hw89⟩ : ∃ u, u = setAll w30 ((Addr.mk b34 0 none).add 6) [(Value.bool x85)] 0 := ⟨_, rfl⟩
          replace h := h w31 hw89
          obtain ⟨o13, h⟩ := h
          refine stepD_skpL (L' := [(17, fun _ => True), (16, fun _ => True), (15, fun _ => True), (13, fun w => w.cell? ((Addr.mk b9 0 none).add 7) = some (Value.bool x86)), (12, fun _ => True)]) (w' := w31) rfl rfl rfl ((x_store (v := (Value.bool x85)) rfl rfl rfl SZ_4 (ones (by rfl)) q89).trans (by rw [hw89]; rfl)) (by kernel_rfl) (held_cons trivial (held_cons trivial (held_cons trivial (held_cons o13 (held_cons trivial held_nil))))) ?_
          refine wpD_take (v := (Value.pointer (some ((Addr.mk b34 0 none).add 7)))) 22 (fun _ => True) rfl (by kernel_rfl) (by kernel_rfl) (by kernel_rfl) rfl rfl rfl trivial (fun w _ => (x_fieldAddr rfl e5 FA_24_7)) ?_
          refine wpD_all (rs := [23]) (by kernel_rfl) (by simp) (allD_cons ?_ allD_nil)
          obtain ⟨q90, h⟩ := h
          obtain ⟨w32, hw90⟩ : ∃ u, u = setAll w31 ((Addr.mk b34 0 none).add 7) [(Value.bool true)] 0 := ⟨_, rfl⟩
          replace h := h w32 hw90
          refine stepD_skpL (L' := []) (w' := w32) rfl rfl rfl ((x_store (v := (Value.bool true)) rfl rfl rfl SZ_4 (ones (by rfl)) q90).trans (by rw [hw90]; rfl)) (by kernel_rfl) held_nil ?_
          exact wpD_done (by kernel_rfl) ⟨(), ⟨e2, e3, e4, e5, trivial⟩, h⟩
        · replace h := h.2 hc87
          refine wpD_take (v := (Value.pointer (some ((Addr.mk b10 0 none).add 7)))) 15 (fun _ => True) rfl (by kernel_rfl) (by kernel_rfl) (by kernel_rfl) (wantG rfl rfl rfl hc87) rfl rfl trivial (fun w _ => (x_fieldAddr rfl e3 FA_24_7)) ?_
          obtain ⟨x91, q91, h⟩ := h
          refine wpD_take (v := (Value.bool x91)) 16 (fun w => w.cell? ((Addr.mk b10 0 none).add 7) = some (Value.bool x91)) rfl (by kernel_rfl) (by kernel_rfl) (by kernel_rfl) (wantG rfl rfl rfl hc87) rfl rfl q91 (fun w q91 => (x_load1 rfl rfl SH_4 q91)) ?_
          refine wpD_take (v := (Value.bool x91)) 17 (fun _ => True) rfl (by kernel_rfl) (by kernel_rfl) (by kernel_rfl) rfl rfl rfl trivial (fun w _ => (x_pickF (v := (Value.bool x91)) rfl rfl hc87 rfl)) ?_
          refine wpD_take (v := (Value.pointer (some ((Addr.mk b34 0 none).add 4)))) 18 (fun _ => True) rfl (by kernel_rfl) (by kernel_rfl) (by kernel_rfl) rfl rfl rfl trivial (fun w _ => (x_fieldAddr rfl e5 FA_24_4)) ?_
          refine wpD_all (rs := [19]) (by kernel_rfl) (by simp) (allD_cons ?_ allD_nil)
          obtain ⟨q92, h⟩ := h
          obtain ⟨w33, hw92⟩ : ∃ u, u = setAll w11 ((Addr.mk b34 0 none).add 4) [(Value.bool x73)] 0 := ⟨_, rfl⟩
          replace h := h w33 hw92
          obtain ⟨o16, h⟩ := h
          obtain ⟨o13, h⟩ := h
          obtain ⟨o10, h⟩ := h
          obtain ⟨o7, h⟩ := h
          refine stepD_skpL (L' := [(17, fun _ => True), (16, fun w => w.cell? ((Addr.mk b10 0 none).add 7) = some (Value.bool x91)), (15, fun _ => True), (13, fun w => w.cell? ((Addr.mk b9 0 none).add 7) = some (Value.bool x86)), (12, fun _ => True), (11, fun _ => True), (10, fun w => w.cell? ((Addr.mk b10 0 none).add 6) = some (Value.bool x85)), (9, fun _ => True), (8, fun _ => True), (7, fun w => w.cell? ((Addr.mk b9 0 none).add 6) = some (Value.bool x74)), (6, fun _ => True)]) (w' := w33) rfl rfl rfl ((x_store (v := (Value.bool x73)) rfl rfl rfl SZ_4 (ones (by rfl)) q92).trans (by rw [hw92]; rfl)) (by kernel_rfl) (held_cons trivial (held_cons o16 (held_cons trivial (held_cons o13 (held_cons trivial (held_cons trivial (held_cons o10 (held_cons trivial (held_cons trivial (held_cons o7 (held_cons trivial held_nil))))))))))) ?_
          refine wpD_take (v := (Value.pointer (some ((Addr.mk b34 0 none).add 6)))) 20 (fun _ => True) rfl (by kernel_rfl) (by kernel_rfl) (by kernel_rfl) rfl rfl rfl trivial (fun w _ => (x_fieldAddr rfl e5 FA_24_6)) ?_
          refine wpD_all (rs := [21]) (by kernel_rfl) (by simp) (allD_cons ?_ allD_nil)
          obtain ⟨q93, h⟩ := h
          obtain ⟨w34, hw93⟩ : ∃ u, u = setAll w33 ((Addr.mk b34 0 none).add 6) [(Value.bool x85)] 0 := ⟨_, rfl⟩
          replace h := h w34 hw93
          obtain ⟨o16, h⟩ := h
          obtain ⟨o13, h⟩ := h
          refine stepD_skpL (L' := [(17, fun _ => True), (16, fun w => w.cell? ((Addr.mk b10 0 none).add 7) = some (Value.bool x91)), (15, fun _ => True), (13, fun w => w.cell? ((Addr.mk b9 0 none).add 7) = some (Value.bool x86)), (12, fun _ => True)]) (w' := w34) rfl rfl rfl ((x_store (v := (Value.bool x85)) rfl rfl rfl SZ_4 (ones (by rfl)) q93).trans (by rw [hw93]; rfl)) (by kernel_rfl) (held_cons trivial (held_cons o16 (held_cons trivial (held_cons o13 (held_cons trivial held_nil))))) ?_
          refine wpD_take (v := (Value.pointer (some ((Addr.mk b34 0 none).add 7)))) 22 (fun _ => True) rfl (by kernel_rfl) (by kernel_rfl) (by kernel_rfl) rfl rfl rfl trivial (fun w _ => (x_fieldAddr rfl e5 FA_24_7)) ?_
          refine wpD_all (rs := [23]) (by kernel_rfl) (by simp) (allD_cons ?_ allD_nil)
          obtain ⟨q94, h⟩ := h
          obtain ⟨w35, hw94⟩ : ∃ u, u = setAll w34 ((Addr.mk b34 0 none).add 7) [(Value.bool x91)] 0 := ⟨_, rfl⟩
          replace h := h w35 hw94
          refine stepD_skpL (L' := []) (w' := w35) rfl rfl rfl ((x_store (v := (Value.bool x91)) rfl rfl rfl SZ_4 (ones (by rfl)) q94).trans (by rw [hw94]; rfl)) (by kernel_rfl) held_nil ?_
          exact wpD_done (by kernel_rfl) ⟨(), ⟨e2, e3, e4, e5, trivial⟩, h⟩
  clear h
  rintro l95 ρ w36 ⟨e2, e3, e4, e5, -⟩ h
  replace h := hk l95 w36 h
  clear hk
  refine wpC_seq ?_
  obtain ⟨J97, h, hk⟩ := h
  refine wpC_drawJ (by kernel_rfl) (fun (x : Unit) ρ => ρ 2 = (Value.pointer (some (Addr.mk b9 0 none))) ∧ ρ 3 = (Value.pointer (some (Addr.mk b10 0 none))) ∧ ρ 4 = (Value.pointer (some (Addr.mk b11 0 none))) ∧ ρ 5 = (Value.pointer (some (Addr.mk b34 0 none))) ∧ True) J97 ?_ ?_
  · clear hk
    unfold tk at h
    generalize w36.drew = w37 at h ⊢
    refine wpD_take (v := (Value.pointer (some ((Addr.mk b9 0 none).add 8)))) 0 (fun _ => True) rfl (by kernel_rfl) (by kernel_rfl) (by kernel_rfl) rfl rfl rfl trivial (fun w _ => (x_fieldAddr rfl e2 FA_24_8)) ?_
    obtain ⟨x98, q98, h⟩ := h
    refine wpD_take (v := (Value.int .i64 x98)) 1 (fun w => w.cell? ((Addr.mk b9 0 none).add 8) = some (Value.int .i64 x98)) rfl (by kernel_rfl) (by kernel_rfl) (by kernel_rfl) rfl rfl rfl q98 (fun w q98 => (x_load1 rfl rfl SH_3 q98)) ?_
    refine wpD_take (v := (Value.pointer (some ((Addr.mk b10 0 none).add 8)))) 2 (fun _ => True) rfl (by kernel_rfl) (by kernel_rfl) (by kernel_rfl) rfl rfl rfl trivial (fun w _ => (x_fieldAddr rfl e3 FA_24_8)) ?_
    obtain ⟨x99, q99, h⟩ := h
    refine wpD_take (v := (Value.int .i64 x99)) 3 (fun w => w.cell? ((Addr.mk b10 0 none).add 8) = some (Value.int .i64 x99)) rfl (by kernel_rfl) (by kernel_rfl) (by kernel_rfl) rfl rfl rfl q99 (fun w q99 => (x_load1 rfl rfl SH_3 q99)) ?_
    refine wpD_take (v := (Value.int .i64 (max x98 x99))) 4 (fun _ => True) rfl (by kernel_rfl) (by kernel_rfl) (by kernel_rfl) rfl rfl rfl trivial (fun w _ => (x_max rfl rfl rfl)) ?_
    refine wpD_take (v := (Value.pointer (some ((Addr.mk b9 0 none).add 9)))) 5 (fun _ => True) rfl (by kernel_rfl) (by kernel_rfl) (by kernel_rfl) rfl rfl rfl trivial (fun w _ => (x_fieldAddr rfl e2 FA_24_9)) ?_
    obtain ⟨x100, q100, h⟩ := h
    refine wpD_take (v := (Value.int .i64 x100)) 6 (fun w => w.cell? ((Addr.mk b9 0 none).add 9) = some (Value.int .i64 x100)) rfl (by kernel_rfl) (by kernel_rfl) (by kernel_rfl) rfl rfl rfl q100 (fun w q100 => (x_load1 rfl rfl SH_3 q100)) ?_
    refine wpD_take (v := (Value.pointer (some ((Addr.mk b10 0 none).add 9)))) 7 (fun _ => True) rfl (by kernel_rfl) (by kernel_rfl) (by kernel_rfl) rfl rfl rfl trivial (fun w _ => (x_fieldAddr rfl e3 FA_24_9)) ?_
    obtain ⟨x101, q101, h⟩ := h
    refine wpD_take (v := (Value.int .i64 x101)) 8 (fun w => w.cell? ((Addr.mk b10 0 none).add 9) = some (Value.int .i64 x101)) rfl (by kernel_rfl) (by kernel_rfl) (by kernel_rfl) rfl rfl rfl q101 (fun w q101 => (x_load1 rfl rfl SH_3 q101)) ?_
    refine wpD_take (v := (Value.int .i64 (max x100 x101))) 9 (fun _ => True) rfl (by kernel_rfl) (by kernel_rfl) (by kernel_rfl) rfl rfl rfl trivial (fun w _ => (x_max rfl rfl rfl)) ?_
    refine wpD_take (v := (Value.pointer (some ((Addr.mk b9 0 none).add 16)))) 10 (fun _ => True) rfl (by kernel_rfl) (by kernel_rfl) (by kernel_rfl) rfl rfl rfl trivial (fun w _ => (x_fieldAddr rfl e2 FA_24_16)) ?_
    obtain ⟨x102, q102, h⟩ := h
    refine wpD_take (v := (Value.int .i64 x102)) 11 (fun w => w.cell? ((Addr.mk b9 0 none).add 16) = some (Value.int .i64 x102)) rfl (by kernel_rfl) (by kernel_rfl) (by kernel_rfl) rfl rfl rfl q102 (fun w q102 => (x_load1 rfl rfl SH_3 q102)) ?_
    refine wpD_take (v := (Value.pointer (some ((Addr.mk b10 0 none).add 16)))) 12 (fun _ => True) rfl (by kernel_rfl) (by kernel_rfl) (by kernel_rfl) rfl rfl rfl trivial (fun w _ => (x_fieldAddr rfl e3 FA_24_16)) ?_
    obtain ⟨x103, q103, h⟩ := h
    refine wpD_take (v := (Value.int .i64 x103)) 13 (fun w => w.cell? ((Addr.mk b10 0 none).add 16) = some (Value.int .i64 x103)) rfl (by kernel_rfl) (by kernel_rfl) (by kernel_rfl) rfl rfl rfl q103 (fun w q103 => (x_load1 rfl rfl SH_3 q103)) ?_
    refine wpD_take (v := (Value.int .i64 (max x102 x103))) 14 (fun _ => True) rfl (by kernel_rfl) (by kernel_rfl) (by kernel_rfl) rfl rfl rfl trivial (fun w _ => (x_max rfl rfl rfl)) ?_
    refine wpD_take (v := (Value.pointer (some ((Addr.mk b34 0 none).add 8)))) 15 (fun _ => True) rfl (by kernel_rfl) (by kernel_rfl) (by kernel_rfl) rfl rfl rfl trivial (fun w _ => (x_fieldAddr rfl e5 FA_24_8)) ?_
    refine wpD_all (rs := [16]) (by kernel_rfl) (by simp) (allD_cons ?_ allD_nil)
    obtain ⟨q104, h⟩ := h
    obtain ⟨w38, hw104⟩ : ∃ u, u = setAll w37 ((Addr.mk b34 0 none).add 8) [(Value.int .i64 (max x98 x99))] 0 := ⟨_, rfl⟩
    replace h := h w38 hw104
    obtain ⟨o13, h⟩ := h
    obtain ⟨o11, h⟩ := h
    obtain ⟨o8, h⟩ := h
    obtain ⟨o6, h⟩ := h
    refine stepD_skpL (L' := [(14, fun _ => True), (13, fun w => w.cell? ((Addr.mk b10 0 none).add 16) = some (Value.int .i64 x103)), (12, fun _ => True), (11, fun w => w.cell? ((Addr.mk b9 0 none).add 16) = some (Value.int .i64 x102)), (10, fun _ => True), (9, fun _ => True), (8, fun w => w.cell? ((Addr.mk b10 0 none).add 9) = some (Value.int .i64 x101)), (7, fun _ => True), (6, fun w => w.cell? ((Addr.mk b9 0 none).add 9) = some (Value.int .i64 x100)), (5, fun _ => True)]) (w' := w38) rfl rfl rfl ((x_store (v := (Value.int .i64 (max x98 x99))) rfl rfl rfl SZ_3 (ones (by rfl)) q104).trans (by rw [hw104]; rfl)) (by kernel_rfl) (held_cons trivial (held_cons o13 (held_cons trivial (held_cons o11 (held_cons trivial (held_cons trivial (held_cons o8 (held_cons trivial (held_cons o6 (held_cons trivial held_nil)))))))))) ?_
    refine wpD_take (v := (Value.pointer (some ((Addr.mk b34 0 none).add 9)))) 17 (fun _ => True) rfl (by kernel_rfl) (by kernel_rfl) (by kernel_rfl) rfl rfl rfl trivial (fun w _ => (x_fieldAddr rfl e5 FA_24_9)) ?_
    refine wpD_all (rs := [18]) (by kernel_rfl) (by simp) (allD_cons ?_ allD_nil)
    obtain ⟨q105, h⟩ := h
    obtain ⟨w39, hw105⟩ : ∃ u, u = setAll w38 ((Addr.mk b34 0 none).add 9) [(Value.int .i64 (max x100 x101))] 0 := ⟨_, rfl⟩
    replace h := h w39 hw105
    obtain ⟨o13, h⟩ := h
    obtain ⟨o11, h⟩ := h
    refine stepD_skpL (L' := [(14, fun _ => True), (13, fun w => w.cell? ((Addr.mk b10 0 none).add 16) = some (Value.int .i64 x103)), (12, fun _ => True), (11, fun w => w.cell? ((Addr.mk b9 0 none).add 16) = some (Value.int .i64 x102)), (10, fun _ => True)]) (w' := w39) rfl rfl rfl ((x_store (v := (Value.int .i64 (max x100 x101))) rfl rfl rfl SZ_3 (ones (by rfl)) q105).trans (by rw [hw105]; rfl)) (by kernel_rfl) (held_cons trivial (held_cons o13 (held_cons trivial (held_cons o11 (held_cons trivial held_nil))))) ?_
    refine wpD_take (v := (Value.pointer (some ((Addr.mk b34 0 none).add 16)))) 19 (fun _ => True) rfl (by kernel_rfl) (by kernel_rfl) (by kernel_rfl) rfl rfl rfl trivial (fun w _ => (x_fieldAddr rfl e5 FA_24_16)) ?_
    refine wpD_all (rs := [20]) (by kernel_rfl) (by simp) (allD_cons ?_ allD_nil)
    obtain ⟨q106, h⟩ := h
    obtain ⟨w40, hw106⟩ : ∃ u, u = setAll w39 ((Addr.mk b34 0 none).add 16) [(Value.int .i64 (max x102 x103))] 0 := ⟨_, rfl⟩
    replace h := h w40 hw106
    refine stepD_skpL (L' := []) (w' := w40) rfl rfl rfl ((x_store (v := (Value.int .i64 (max x102 x103))) rfl rfl rfl SZ_3 (ones (by rfl)) q106).trans (by rw [hw106]; rfl)) (by kernel_rfl) held_nil ?_
    exact wpD_done (by kernel_rfl) ⟨(), ⟨e2, e3, e4, e5, trivial⟩, h⟩
  clear h
  rintro l107 ρ w41 ⟨e2, e3, e4, e5, -⟩ h
  replace h := hk l107 w41 h
  clear hk
  refine wpC_seq ?_
  obtain ⟨J109, h, hk⟩ := h
  refine wpC_drawJ (by kernel_rfl) (fun (x : Unit) ρ => ρ 2 = (Value.pointer (some (Addr.mk b9 0 none))) ∧ ρ 3 = (Value.pointer (some (Addr.mk b10 0 none))) ∧ ρ 4 = (Value.pointer (some (Addr.mk b11 0 none))) ∧ ρ 5 = (Value.pointer (some (Addr.mk b34 0 none))) ∧ True) J109 ?_ ?_
  · clear hk
    unfold tk at h
    generalize w41.drew = w42 at h ⊢
    refine wpD_take (v := (Value.pointer (some ((Addr.mk b9 0 none).add 10)))) 0 (fun _ => True) rfl (by kernel_rfl) (by kernel_rfl) (by kernel_rfl) rfl rfl rfl trivial (fun w _ => (x_fieldAddr rfl e2 FA_24_10)) ?_
    obtain ⟨x110, q110, h⟩ := h
    refine wpD_take (v := (Value.int .i64 x110)) 1 (fun w => w.cell? ((Addr.mk b9 0 none).add 10) = some (Value.int .i64 x110)) rfl (by kernel_rfl) (by kernel_rfl) (by kernel_rfl) rfl rfl rfl q110 (fun w q110 => (x_load1 rfl rfl SH_3 q110)) ?_
    refine wpD_take (v := (Value.pointer (some ((Addr.mk b10 0 none).add 10)))) 2 (fun _ => True) rfl (by kernel_rfl) (by kernel_rfl) (by kernel_rfl) rfl rfl rfl trivial (fun w _ => (x_fieldAddr rfl e3 FA_24_10)) ?_
    obtain ⟨x111, q111, h⟩ := h
    refine wpD_take (v := (Value.int .i64 x111)) 3 (fun w => w.cell? ((Addr.mk b10 0 none).add 10) = some (Value.int .i64 x111)) rfl (by kernel_rfl) (by kernel_rfl) (by kernel_rfl) rfl rfl rfl q111 (fun w q111 => (x_load1 rfl rfl SH_3 q111)) ?_
    refine wpD_take (v := (Value.int .i64 (max x110 x111))) 4 (fun _ => True) rfl (by kernel_rfl) (by kernel_rfl) (by kernel_rfl) rfl rfl rfl trivial (fun w _ => (x_max rfl rfl rfl)) ?_
    refine wpD_take (v := (Value.pointer (some ((Addr.mk b9 0 none).add 11)))) 5 (fun _ => True) rfl (by kernel_rfl) (by kernel_rfl) (by kernel_rfl) rfl rfl rfl trivial (fun w _ => (x_fieldAddr rfl e2 FA_24_11)) ?_
    obtain ⟨x112, q112, h⟩ := h
    refine wpD_take (v := (Value.int .i64 x112)) 6 (fun w => w.cell? ((Addr.mk b9 0 none).add 11) = some (Value.int .i64 x112)) rfl (by kernel_rfl) (by kernel_rfl) (by kernel_rfl) rfl rfl rfl q112 (fun w q112 => (x_load1 rfl rfl SH_3 q112)) ?_
    refine wpD_take (v := (Value.pointer (some ((Addr.mk b10 0 none).add 11)))) 7 (fun _ => True) rfl (by kernel_rfl) (by kernel_rfl) (by kernel_rfl) rfl rfl rfl trivial (fun w _ => (x_fieldAddr rfl e3 FA_24_11)) ?_
    obtain ⟨x113, q113, h⟩ := h
    refine wpD_take (v := (Value.int .i64 x113)) 8 (fun w => w.cell? ((Addr.mk b10 0 none).add 11) = some (Value.int .i64 x113)) rfl (by kernel_rfl) (by kernel_rfl) (by kernel_rfl) rfl rfl rfl q113 (fun w q113 => (x_load1 rfl rfl SH_3 q113)) ?_
    refine wpD_take (v := (Value.int .i64 (max x112 x113))) 9 (fun _ => True) rfl (by kernel_rfl) (by kernel_rfl) (by kernel_rfl) rfl rfl rfl trivial (fun w _ => (x_max rfl rfl rfl)) ?_
    refine wpD_take (v := (Value.pointer (some ((Addr.mk b34 0 none).add 10)))) 10 (fun _ => True) rfl (by kernel_rfl) (by kernel_rfl) (by kernel_rfl) rfl rfl rfl trivial (fun w _ => (x_fieldAddr rfl e5 FA_24_10)) ?_
    refine wpD_all (rs := [11]) (by kernel_rfl) (by simp) (allD_cons ?_ allD_nil)
    obtain ⟨q114, h⟩ := h
    obtain ⟨w43, hw114⟩ : ∃ u, u = setAll w42 ((Addr.mk b34 0 none).add 10) [(Value.int .i64 (max x110 x111))] 0 := ⟨_, rfl⟩
    replace h := h w43 hw114
    obtain ⟨o8, h⟩ := h
    obtain ⟨o6, h⟩ := h
    refine stepD_skpL (L' := [(9, fun _ => True), (8, fun w => w.cell? ((Addr.mk b10 0 none).add 11) = some (Value.int .i64 x113)), (7, fun _ => True), (6, fun w => w.cell? ((Addr.mk b9 0 none).add 11) = some (Value.int .i64 x112)), (5, fun _ => True)]) (w' := w43) rfl rfl rfl ((x_store (v := (Value.int .i64 (max x110 x111))) rfl rfl rfl SZ_3 (ones (by rfl)) q114).trans (by rw [hw114]; rfl)) (by kernel_rfl) (held_cons trivial (held_cons o8 (held_cons trivial (held_cons o6 (held_cons trivial held_nil))))) ?_
    refine wpD_take (v := (Value.pointer (some ((Addr.mk b34 0 none).add 11)))) 12 (fun _ => True) rfl (by kernel_rfl) (by kernel_rfl) (by kernel_rfl) rfl rfl rfl trivial (fun w _ => (x_fieldAddr rfl e5 FA_24_11)) ?_
    refine wpD_all (rs := [13]) (by kernel_rfl) (by simp) (allD_cons ?_ allD_nil)
    obtain ⟨q115, h⟩ := h
    obtain ⟨w44, hw115⟩ : ∃ u, u = setAll w43 ((Addr.mk b34 0 none).add 11) [(Value.int .i64 (max x112 x113))] 0 := ⟨_, rfl⟩
    replace h := h w44 hw115
    refine stepD_skpL (L' := []) (w' := w44) rfl rfl rfl ((x_store (v := (Value.int .i64 (max x112 x113))) rfl rfl rfl SZ_3 (ones (by rfl)) q115).trans (by rw [hw115]; rfl)) (by kernel_rfl) held_nil ?_
    exact wpD_done (by kernel_rfl) ⟨(), ⟨e2, e3, e4, e5, trivial⟩, h⟩
  clear h
  rintro l116 ρ w45 ⟨e2, e3, e4, e5, -⟩ h
  replace h := hk l116 w45 h
  clear hk
  refine wpC_seq ?_
  refine wpC_region ?_
  obtain ⟨x117, q117, x118, q118, x119, q119, x120, q120, x121, q121, x122, q122, x123, q123, x124, q124, x125, q125, x126, q126, x127, q127, x128, q128, x129, q129, x130, q130, x131, q131, x132, q132, x133, q133, x134, q134, x135, q135, x136, q136, x137, q137, x138, q138, h⟩ := h
  refine wpR_val (v := (V23 x117 x118 x119 x120 x121 x122 x123 x124 x125 x126 x127 x128 x129 x130 x131 x132 x133 x134 x135 x136 x137 x138)) (w' := w45) rfl rfl rfl (x_loadN (S23 x117 x118 x119 x120 x121 x122 x123 x124 x125 x126 x127 x128 x129 x130 x131 x132 x133 x134 x135 x136 x137 x138) rfl e2 SH_24 (K23 ⟨q117, q118, q119, q120, q121, q122, q123, q124, q125, q126, q127, q128, q129, q130, q131, q132, q133, q134, q135, q136, q137, q138⟩)) ?_
  obtain ⟨x139, q139, x140, q140, x141, q141, x142, q142, x143, q143, x144, q144, x145, q145, x146, q146, x147, q147, x148, q148, x149, q149, x150, q150, x151, q151, x152, q152, x153, q153, x154, q154, x155, q155, x156, q156, x157, q157, x158, q158, x159, q159, x160, q160, h⟩ := h
  refine wpR_val (v := (V23 x139 x140 x141 x142 x143 x144 x145 x146 x147 x148 x149 x150 x151 x152 x153 x154 x155 x156 x157 x158 x159 x160)) (w' := w45) rfl rfl rfl (x_loadN (S23 x139 x140 x141 x142 x143 x144 x145 x146 x147 x148 x149 x150 x151 x152 x153 x154 x155 x156 x157 x158 x159 x160) rfl e3 SH_24 (K23 ⟨q139, q140, q141, q142, q143, q144, q145, q146, q147, q148, q149, q150, q151, q152, q153, q154, q155, q156, q157, q158, q159, q160⟩)) ?_
  refine wpR_enter rfl rfl rfl (x_call (vs := [(V23 x117 x118 x119 x120 x121 x122 x123 x124 x125 x126 x127 x128 x129 x130 x131 x132 x133 x134 x135 x136 x137 x138), (V23 x139 x140 x141 x142 x143 x144 x145 x146 x147 x148 x149 x150 x151 x152 x153 x154 x155 x156 x157 x158 x159 x160)]) rfl rfl (mapl_cons rfl (mapl_cons rfl mapl_nil)) Try.func44 NN_44 NB_44) (Calls.mono h ?_)
  rintro _ w46 ⟨r161, rfl, h⟩
  refine ⟨_, rfl, ?_⟩
  refine wpR_val (v := (Value.pointer (some ((Addr.mk b34 0 none).add 2)))) (w' := w46) rfl rfl rfl (x_fieldAddr rfl e5 FA_24_2) ?_
  obtain ⟨q162, h⟩ := h
  obtain ⟨w47, hw162⟩ : ∃ u, u = setAll w46 ((Addr.mk b34 0 none).add 2) [(Value.int .i64 r161)] 0 := ⟨_, rfl⟩
  replace h := h w47 hw162
  refine wpR_skp (w' := w47) rfl rfl ((x_store (v := (Value.int .i64 r161)) rfl rfl rfl SZ_3 (ones (by rfl)) q162).trans (by rw [hw162]; rfl)) ?_
  refine wpR_nil ?_
  refine wpC_seq ?_
  refine wpC_cut (fun ρ => ρ 2 = (Value.pointer (some (Addr.mk b9 0 none))) ∧ ρ 3 = (Value.pointer (some (Addr.mk b10 0 none))) ∧ ρ 4 = (Value.pointer (some (Addr.mk b11 0 none))) ∧ ρ 5 = (Value.pointer (some (Addr.mk b34 0 none))) ∧ True) ⟨e2, e3, e4, e5, trivial⟩ ?_
  rintro ρ ⟨e2, e3, e4, e5, -⟩
  refine wpC_region ?_
  refine wpR_val (v := (Value.pointer (some ((Addr.mk b9 0 none).add 12)))) (w' := w47) rfl rfl rfl (x_fieldAddr rfl e2 FA_24_12) ?_
  obtain ⟨x163, q163, h⟩ := h
  refine wpR_val (v := (Sl.v x163)) (w' := w47) rfl rfl rfl (x_load1 rfl rfl SH_22 q163) ?_
  refine wpR_enter rfl rfl rfl (x_call (vs := [(Sl.v x163)]) rfl rfl (mapl_cons rfl mapl_nil) Try.func45 NN_45 NB_45) (Calls.mono h ?_)
  rintro _ w48 ⟨r164, rfl, h⟩
  refine ⟨_, rfl, ?_⟩
  refine wpR_val (v := (Value.pointer (some ((Addr.mk b34 0 none).add 12)))) (w' := w48) rfl rfl rfl (x_fieldAddr rfl e5 FA_24_12) ?_
  obtain ⟨q165, h⟩ := h
  obtain ⟨w49, hw165⟩ : ∃ u, u = setAll w48 ((Addr.mk b34 0 none).add 12) [(Sl.v r164)] 0 := ⟨_, rfl⟩
  replace h := h w49 hw165
  refine wpR_skp (w' := w49) rfl rfl ((x_store (v := (Sl.v r164)) rfl rfl rfl SZ_22 (ones (by rfl)) q165).trans (by rw [hw165]; rfl)) ?_
  refine wpR_nil ?_
  refine wpC_seq ?_
  refine wpC_seq ?_
  refine wpC_cut (fun ρ => ρ 2 = (Value.pointer (some (Addr.mk b9 0 none))) ∧ ρ 3 = (Value.pointer (some (Addr.mk b10 0 none))) ∧ ρ 4 = (Value.pointer (some (Addr.mk b11 0 none))) ∧ ρ 5 = (Value.pointer (some (Addr.mk b34 0 none))) ∧ True) ⟨e2, e3, e4, e5, trivial⟩ ?_
  rintro ρ ⟨e2, e3, e4, e5, -⟩
  refine wpC_region ?_
  refine wpR_val (v := (Value.pointer (some ((Addr.mk b10 0 none).add 12)))) (w' := w49) rfl rfl rfl (x_fieldAddr rfl e3 FA_24_12) ?_
  obtain ⟨x166, q166, h⟩ := h
  refine wpR_val (v := (Sl.v x166)) (w' := w49) rfl rfl rfl (x_load1 rfl rfl SH_22 q166) ?_
  refine wpR_val (v := (Value.int .i64 (x166.len : Int))) (w' := w49) rfl rfl rfl (x_lenS (s := x166) rfl rfl isSliceT_22) ?_
  refine wpR_val (v := (Value.int .i64 0)) (w' := w49) rfl rfl rfl (x_move (v := (Value.int .i64 0)) rfl rfl) ?_
  refine wpR_nil ?_
  refine wpC_block ?_
  obtain ⟨I167, μ167, hI167, hr167⟩ := h
  refine wpC_loop (fun (x : Int) ρ => ρ 89 = (Value.int .i64 x) ∧ ρ 2 = (Value.pointer (some (Addr.mk b9 0 none))) ∧ ρ 4 = (Value.pointer (some (Addr.mk b11 0 none))) ∧ ρ 5 = (Value.pointer (some (Addr.mk b34 0 none))) ∧ ρ 87 = (Sl.v x166) ∧ ρ 88 = (Value.int .i64 (x166.len : Int)) ∧ True) I167 μ167 0 ⟨rfl, e2, e4, e5, rfl, rfl, trivial⟩ hI167 ?_
  rintro l167 ρ w50 ⟨e89, e2, e4, e5, e87, e88, -⟩ h
  replace h := hr167 l167 w50 h
  clear hr167 hI167
  refine wpC_seq ?_
  refine wpC_region ?_
  refine wpR_val (v := (Value.bool (decide (l167 < (x166.len : Int))))) (w' := w50) rfl rfl rfl (x_lss rfl e89 e88) ?_
  refine wpR_nil ?_
  refine wpC_seq ?_
  refine wpC_cond (b := decide (l167 < (x166.len : Int))) rfl (fun hc168 => ?_) (fun hc168 => ?_)
  · replace h := h.1 hc168
    refine wpC_skip ?_
    obtain ⟨J169, h, hk⟩ := h
    refine wpC_seqJ (fun (x : Unit) ρ => ρ 2 = (Value.pointer (some (Addr.mk b9 0 none))) ∧ ρ 4 = (Value.pointer (some (Addr.mk b11 0 none))) ∧ ρ 5 = (Value.pointer (some (Addr.mk b34 0 none))) ∧ ρ 87 = (Sl.v x166) ∧ ρ 88 = (Value.int .i64 (x166.len : Int)) ∧ ρ 89 = (Value.int .i64 l167) ∧ True) J169 ?_ ?_
    · clear hk
      refine wpC_block ?_
      refine wpC_seq ?_
      refine wpC_cut (fun ρ => ρ 2 = (Value.pointer (some (Addr.mk b9 0 none))) ∧ ρ 4 = (Value.pointer (some (Addr.mk b11 0 none))) ∧ ρ 5 = (Value.pointer (some (Addr.mk b34 0 none))) ∧ ρ 87 = (Sl.v x166) ∧ ρ 88 = (Value.int .i64 (x166.len : Int)) ∧ ρ 89 = (Value.int .i64 l167) ∧ True) ⟨e2, e4, e5, e87, e88, e89, trivial⟩ ?_
      rintro ρ ⟨e2, e4, e5, e87, e88, e89, -⟩
      refine wpC_region ?_
      obtain ⟨q171, z171, r171, h⟩ := h
      generalize hp171 : z171.add ((l167 : Int).toNat * 1) = p171 at h
      refine wpR_val (v := (Value.pointer (some p171))) (w' := w50) rfl rfl rfl ((x_indexAddr (s := x166) rfl e87 e89 ES_22 q171 r171).trans (by rw [hp171])) ?_
      obtain ⟨x172, q172, h⟩ := h
      refine wpR_val (v := (Value.string x172)) (w' := w50) rfl rfl rfl (x_load1 rfl rfl SH_9 q172) ?_
      refine wpR_val (v := (Value.string x172)) (w' := w50) rfl rfl rfl (x_assign (v := (Value.string x172)) rfl rfl) ?_
      refine wpR_nil ?_
      refine wpC_seq ?_
      refine wpC_cut (fun ρ => ρ 2 = (Value.pointer (some (Addr.mk b9 0 none))) ∧ ρ 4 = (Value.pointer (some (Addr.mk b11 0 none))) ∧ ρ 5 = (Value.pointer (some (Addr.mk b34 0 none))) ∧ ρ 7 = (Value.string x172) ∧ ρ 87 = (Sl.v x166) ∧ ρ 88 = (Value.int .i64 (x166.len : Int)) ∧ ρ 89 = (Value.int .i64 l167) ∧ True) ⟨e2, e4, e5, rfl, e87, e88, e89, trivial⟩ ?_
      rintro ρ ⟨e2, e4, e5, e7, e87, e88, e89, -⟩
      refine wpC_region ?_
      refine wpR_val (v := (Value.pointer (some ((Addr.mk b9 0 none).add 12)))) (w' := w50) rfl rfl rfl (x_fieldAddr rfl e2 FA_24_12) ?_
      obtain ⟨x173, q173, h⟩ := h
      refine wpR_val (v := (Sl.v x173)) (w' := w50) rfl rfl rfl (x_load1 rfl rfl SH_22 q173) ?_
      refine wpR_val (v := (Value.string x172)) (w' := w50) rfl rfl rfl (x_move (v := (Value.string x172)) rfl e7) ?_
      refine wpR_enter rfl rfl rfl (x_call (vs := [(Sl.v x173), (Value.string x172)]) rfl rfl (mapl_cons rfl (mapl_cons rfl mapl_nil)) Try.func42 NN_42 NB_42) (Calls.mono h ?_)
      rintro _ w52 ⟨r174, rfl, h⟩
      refine ⟨_, rfl, ?_⟩
      refine wpR_val (v := (Value.bool (!r174))) (w' := w52) rfl rfl rfl (x_not rfl rfl) ?_
      refine wpR_nil ?_
      refine wpC_cond (b := !r174) rfl (fun hc175 => ?_) (fun hc175 => ?_)
      · replace h := h.1 hc175
        refine wpC_cut (fun ρ => ρ 2 = (Value.pointer (some (Addr.mk b9 0 none))) ∧ ρ 4 = (Value.pointer (some (Addr.mk b11 0 none))) ∧ ρ 5 = (Value.pointer (some (Addr.mk b34 0 none))) ∧ ρ 7 = (Value.string x172) ∧ ρ 87 = (Sl.v x166) ∧ ρ 88 = (Value.int .i64 (x166.len : Int)) ∧ ρ 89 = (Value.int .i64 l167) ∧ True) ⟨e2, e4, e5, e7, e87, e88, e89, trivial⟩ ?_
        rintro ρ ⟨e2, e4, e5, e7, e87, e88, e89, -⟩
        refine wpC_region ?_
        refine wpR_val (v := (Value.pointer (some ((Addr.mk b34 0 none).add 12)))) (w' := w52) rfl rfl rfl (x_fieldAddr rfl e5 FA_24_12) ?_
        obtain ⟨x176, q176, h⟩ := h
        refine wpR_val (v := (Sl.v x176)) (w' := w52) rfl rfl rfl (x_load1 rfl rfl SH_22 q176) ?_
        refine wpR_val (v := (Value.string x172)) (w' := w52) rfl rfl rfl (x_move (v := (Value.string x172)) rfl e7) ?_
        obtain ⟨b177, hb177⟩ : ∃ u, u = w52.heap.size := ⟨_, rfl⟩
        obtain ⟨w53, hw177⟩ : ∃ u, u = w52.alloc (.cells #[(Value.string x172)] 9) := ⟨_, rfl⟩
        replace h := h b177 w53 hb177 hw177
        refine wpR_val (v := (Sl.v (⟨some ⟨b177, 0, none⟩, 1, 1⟩ : Sl))) (w' := w53) rfl rfl rfl ((x_buildSlice (qs := [(0, (Value.string x172))]) rfl (by rfl) (BS_22_1_0 x172)).trans (by rw [← hb177, ← hw177])) ?_
        obtain ⟨r178, w54, q178, h⟩ := h
        refine wpR_val (v := (Sl.v r178)) (w' := w54) rfl rfl rfl (x_append (s := x176) (u := (⟨some ⟨b177, 0, none⟩, 1, 1⟩ : Sl)) rfl rfl rfl rfl q178) ?_
        refine wpR_val (v := (Value.pointer (some ((Addr.mk b34 0 none).add 12)))) (w' := w54) rfl rfl rfl (x_fieldAddr rfl e5 FA_24_12) ?_
        obtain ⟨q179, h⟩ := h
        obtain ⟨w55, hw179⟩ : ∃ u, u = setAll w54 ((Addr.mk b34 0 none).add 12) [(Sl.v r178)] 0 := ⟨_, rfl⟩
        replace h := h w55 hw179
        refine wpR_skp (w' := w55) rfl rfl ((x_store (v := (Sl.v r178)) rfl rfl rfl SZ_22 (ones (by rfl)) q179).trans (by rw [hw179]; rfl)) ?_
        refine wpR_nil ?_
        exact ⟨(), ⟨e2, e4, e5, e87, e88, e89, trivial⟩, h⟩
      · replace h := h.2 hc175
        refine wpC_skip ?_
        exact ⟨(), ⟨e2, e4, e5, e87, e88, e89, trivial⟩, h⟩
    clear h
    rintro l170 ρ w51 ⟨e2, e4, e5, e87, e88, e89, -⟩ h
    replace h := hk l170 w51 h
    clear hk
    refine wpC_region ?_
    refine wpR_val (v := (Value.int .i64 (IntKind.i64.wrap (l167 + 1)))) (w' := w51) rfl rfl rfl (x_add rfl e89 rfl) ?_
    refine wpR_val (v := (Value.int .i64 (IntKind.i64.wrap (l167 + 1)))) (w' := w51) rfl rfl rfl (x_move (v := (Value.int .i64 (IntKind.i64.wrap (l167 + 1)))) rfl rfl) ?_
    refine wpR_nil ?_
    exact ⟨IntKind.i64.wrap (l167 + 1), ⟨rfl, e2, e4, e5, e87, e88, trivial⟩, h⟩
  · replace h := h.2 hc168
    refine wpC_exit ?_
    refine wpC_seq ?_
    refine wpC_cut (fun ρ => ρ 4 = (Value.pointer (some (Addr.mk b11 0 none))) ∧ ρ 5 = (Value.pointer (some (Addr.mk b34 0 none))) ∧ True) ⟨e4, e5, trivial⟩ ?_
    rintro ρ ⟨e4, e5, -⟩
    refine wpC_region ?_
    obtain ⟨x180, q180, x181, q181, x182, q182, x183, q183, x184, q184, x185, q185, x186, q186, x187, q187, x188, q188, x189, q189, x190, q190, x191, q191, x192, q192, x193, q193, x194, q194, x195, q195, x196, q196, x197, q197, x198, q198, x199, q199, x200, q200, x201, q201, h⟩ := h
    refine wpR_val (v := (V23 x180 x181 x182 x183 x184 x185 x186 x187 x188 x189 x190 x191 x192 x193 x194 x195 x196 x197 x198 x199 x200 x201)) (w' := w50) rfl rfl rfl (x_loadN (S23 x180 x181 x182 x183 x184 x185 x186 x187 x188 x189 x190 x191 x192 x193 x194 x195 x196 x197 x198 x199 x200 x201) rfl e5 SH_24 (K23 ⟨q180, q181, q182, q183, q184, q185, q186, q187, q188, q189, q190, q191, q192, q193, q194, q195, q196, q197, q198, q199, q200, q201⟩)) ?_
    obtain ⟨q202, h⟩ := h
    obtain ⟨w56, hw202⟩ : ∃ u, u = setAll w50 (Addr.mk b11 0 none) (S23 x180 x181 x182 x183 x184 x185 x186 x187 x188 x189 x190 x191 x192 x193 x194 x195 x196 x197 x198 x199 x200 x201) 0 := ⟨_, rfl⟩
    replace h := h w56 hw202
    refine wpR_skp (w' := w56) rfl rfl ((x_store (v := (V23 x180 x181 x182 x183 x184 x185 x186 x187 x188 x189 x190 x191 x192 x193 x194 x195 x196 x197 x198 x199 x200 x201)) rfl e4 rfl SZ_24 (ones (by rfl)) q202).trans (by rw [hw202]; rfl)) ?_
    refine wpR_nil ?_
    refine wpC_ret ?_
    obtain ⟨x203, q203, x204, q204, x205, q205, x206, q206, x207, q207, x208, q208, x209, q209, x210, q210, x211, q211, x212, q212, x213, q213, x214, q214, x215, q215, x216, q216, x217, q217, x218, q218, x219, q219, x220, q220, x221, q221, x222, q222, x223, q223, x224, q224, h⟩ := h
    exact ⟨.inl rfl, fun a ha => ⟨_, results_repC (S23 x203 x204 x205 x206 x207 x208 x209 x210 x211 x212 x213 x214 x215 x216 x217 x218 x219 x220 x221 x222 x223 x224) rfl ha e4 SH_24 (K23 ⟨q203, q204, q205, q206, q207, q208, q209, q210, q211, q212, q213, q214, q215, q216, q217, q218, q219, q220, q221, q222, q223, q224⟩), (x203, x204, x205, x206, x207, x208, x209, x210, x211, x212, x213, x214, x215, x216, x217, x218, x219, x220, x221, x222, x223, x224), rfl, h⟩⟩


end Go.Proofs.Ytnoahloppffndaa
