import Derived.Test.YtnoahloppffndaaRows
import Derived.Test.YtnoahloppffndaaFs1
import Derived.Test.YtnoahloppffndaaDecRaw
namespace Go.Proofs.Ytnoahloppffndaa
open Go.Dec
set_option maxHeartbeats 400000
set_option maxRecDepth 100000

/-- lingualaw20.LossMore -/
def F7 (p0_0 : ByteArray) (p0_1 : Int) (p0_2 : Int) (p0_3 : Int) (p0_4 : Bool) (p0_5 : Int) (p0_6 : Bool) (p0_7 : Bool) (p0_8 : Int) (p0_9 : Int) (p0_10 : Int) (p0_11 : Int) (p0_12 : Sl) (p0_13 : Int) (p0_14 : Int) (p0_15 : Int) (p0_16 : Int) (p0_17 : Bool) (p0_18 : Int) (p0_19 : Int) (p0_20 : Int) (p0_21 : Int) (p1_0 : ByteArray) (p1_1 : Int) (p1_2 : Int) (p1_3 : Int) (p1_4 : Bool) (p1_5 : Int) (p1_6 : Bool) (p1_7 : Bool) (p1_8 : Int) (p1_9 : Int) (p1_10 : Int) (p1_11 : Int) (p1_12 : Sl) (p1_13 : Int) (p1_14 : Int) (p1_15 : Int) (p1_16 : Int) (p1_17 : Bool) (p1_18 : Int) (p1_19 : Int) (p1_20 : Int) (p1_21 : Int) (w0 : World) (K : Bool → World → Prop) : Prop :=
  nw 24 (A23 p0_0 p0_1 p0_2 p0_3 p0_4 p0_5 p0_6 p0_7 p0_8 p0_9 p0_10 p0_11 p0_12 p0_13 p0_14 p0_15 p0_16 p0_17 p0_18 p0_19 p0_20 p0_21) w0 fun b9 w1 =>
  nw 24 (A23 p1_0 p1_1 p1_2 p1_3 p1_4 p1_5 p1_6 p1_7 p1_8 p1_9 p1_10 p1_11 p1_12 p1_13 p1_14 p1_15 p1_16 p1_17 p1_18 p1_19 p1_20 p1_21) w1 fun b10 w2 =>
  callC Try.prog 8 #[] (fun (r : Bool) => (Value.bool r)) w2 fun r11 w3 =>
  L23 (Addr.mk b9 0 none) w3 fun x12 x13 x14 x15 x16 x17 x18 x19 x20 x21 x22 x23 x24 x25 x26 x27 x28 x29 x30 x31 x32 x33 =>
  callC Try.prog 9 #[(V23 x12 x13 x14 x15 x16 x17 x18 x19 x20 x21 x22 x23 x24 x25 x26 x27 x28 x29 x30 x31 x32 x33)] (fun (r : Bool) => (Value.bool r)) w3 fun r34 w4 =>
  jn (fun J35 => cnd (!r34)
    (
    J35 true w4
    )
    (
    L23 (Addr.mk b10 0 none) w4 fun x37 x38 x39 x40 x41 x42 x43 x44 x45 x46 x47 x48 x49 x50 x51 x52 x53 x54 x55 x56 x57 x58 =>
    callC Try.prog 9 #[(V23 x37 x38 x39 x40 x41 x42 x43 x44 x45 x46 x47 x48 x49 x50 x51 x52 x53 x54 x55 x56 x57 x58)] (fun (r : Bool) => (Value.bool r)) w4 fun r59 w5 =>
    J35 (!r59) w5
    ))
  fun c60 w6 =>
  jn (fun J61 => cnd (c60)
    (
    J61 true w6
    )
    (
    L23 (Addr.mk b9 0 none) w6 fun x63 x64 x65 x66 x67 x68 x69 x70 x71 x72 x73 x74 x75 x76 x77 x78 x79 x80 x81 x82 x83 x84 =>
    callC Try.prog 17 #[(V23 x63 x64 x65 x66 x67 x68 x69 x70 x71 x72 x73 x74 x75 x76 x77 x78 x79 x80 x81 x82 x83 x84)] (fun (r : Int) => (Value.int .i64 r)) w6 fun r85 w7 =>
    J61 (!decide (r85 = 0)) w7
    ))
  fun c86 w8 =>
  jn (fun J87 => cnd (c86)
    (
    J87 true w8
    )
    (
    L23 (Addr.mk b10 0 none) w8 fun x89 x90 x91 x92 x93 x94 x95 x96 x97 x98 x99 x100 x101 x102 x103 x104 x105 x106 x107 x108 x109 x110 =>
    callC Try.prog 17 #[(V23 x89 x90 x91 x92 x93 x94 x95 x96 x97 x98 x99 x100 x101 x102 x103 x104 x105 x106 x107 x108 x109 x110)] (fun (r : Int) => (Value.int .i64 r)) w8 fun r111 w9 =>
    J87 (!decide (r111 = 0)) w9
    ))
  fun c112 w10 =>
  cnd (c112)
    (
    K r11 w10
    )
    (
    L23 (Addr.mk b9 0 none) w10 fun x114 x115 x116 x117 x118 x119 x120 x121 x122 x123 x124 x125 x126 x127 x128 x129 x130 x131 x132 x133 x134 x135 =>
    callC Try.prog 20 #[(V23 x114 x115 x116 x117 x118 x119 x120 x121 x122 x123 x124 x125 x126 x127 x128 x129 x130 x131 x132 x133 x134 x135)] (fun (r : Sl × Bool) => (Value.tuple #[(Sl.v r.1), (Value.bool r.2)])) w10 fun r136 w11 =>
    L23 (Addr.mk b10 0 none) w11 fun x137 x138 x139 x140 x141 x142 x143 x144 x145 x146 x147 x148 x149 x150 x151 x152 x153 x154 x155 x156 x157 x158 =>
    callC Try.prog 20 #[(V23 x137 x138 x139 x140 x141 x142 x143 x144 x145 x146 x147 x148 x149 x150 x151 x152 x153 x154 x155 x156 x157 x158)] (fun (r : Sl × Bool) => (Value.tuple #[(Sl.v r.1), (Value.bool r.2)])) w11 fun r159 w12 =>
    L23 (Addr.mk b9 0 none) w12 fun x160 x161 x162 x163 x164 x165 x166 x167 x168 x169 x170 x171 x172 x173 x174 x175 x176 x177 x178 x179 x180 x181 =>
    L23 (Addr.mk b10 0 none) w12 fun x182 x183 x184 x185 x186 x187 x188 x189 x190 x191 x192 x193 x194 x195 x196 x197 x198 x199 x200 x201 x202 x203 =>
    callC Try.prog 21 #[(V23 x160 x161 x162 x163 x164 x165 x166 x167 x168 x169 x170 x171 x172 x173 x174 x175 x176 x177 x178 x179 x180 x181), (V23 x182 x183 x184 x185 x186 x187 x188 x189 x190 x191 x192 x193 x194 x195 x196 x197 x198 x199 x200 x201 x202 x203)] E23 w12 fun r204 w13 =>
    callC Try.prog 20 #[(V23 r204.1 r204.2.1 r204.2.2.1 r204.2.2.2.1 r204.2.2.2.2.1 r204.2.2.2.2.2.1 r204.2.2.2.2.2.2.1 r204.2.2.2.2.2.2.2.1 r204.2.2.2.2.2.2.2.2.1 r204.2.2.2.2.2.2.2.2.2.1 r204.2.2.2.2.2.2.2.2.2.2.1 r204.2.2.2.2.2.2.2.2.2.2.2.1 r204.2.2.2.2.2.2.2.2.2.2.2.2.1 r204.2.2.2.2.2.2.2.2.2.2.2.2.2.1 r204.2.2.2.2.2.2.2.2.2.2.2.2.2.2.1 r204.2.2.2.2.2.2.2.2.2.2.2.2.2.2.2.1 r204.2.2.2.2.2.2.2.2.2.2.2.2.2.2.2.2.1 r204.2.2.2.2.2.2.2.2.2.2.2.2.2.2.2.2.2.1 r204.2.2.2.2.2.2.2.2.2.2.2.2.2.2.2.2.2.2.1 r204.2.2.2.2.2.2.2.2.2.2.2.2.2.2.2.2.2.2.2.1 r204.2.2.2.2.2.2.2.2.2.2.2.2.2.2.2.2.2.2.2.2.1 r204.2.2.2.2.2.2.2.2.2.2.2.2.2.2.2.2.2.2.2.2.2)] (fun (r : Sl × Bool) => (Value.tuple #[(Sl.v r.1), (Value.bool r.2)])) w13 fun r205 w14 =>
    L23 (Addr.mk b9 0 none) w14 fun x206 x207 x208 x209 x210 x211 x212 x213 x214 x215 x216 x217 x218 x219 x220 x221 x222 x223 x224 x225 x226 x227 =>
    L23 (Addr.mk b10 0 none) w14 fun x228 x229 x230 x231 x232 x233 x234 x235 x236 x237 x238 x239 x240 x241 x242 x243 x244 x245 x246 x247 x248 x249 =>
    callC Try.prog 22 #[(V23 x206 x207 x208 x209 x210 x211 x212 x213 x214 x215 x216 x217 x218 x219 x220 x221 x222 x223 x224 x225 x226 x227), (V23 x228 x229 x230 x231 x232 x233 x234 x235 x236 x237 x238 x239 x240 x241 x242 x243 x244 x245 x246 x247 x248 x249)] E23 w14 fun r250 w15 =>
    callC Try.prog 20 #[(V23 r250.1 r250.2.1 r250.2.2.1 r250.2.2.2.1 r250.2.2.2.2.1 r250.2.2.2.2.2.1 r250.2.2.2.2.2.2.1 r250.2.2.2.2.2.2.2.1 r250.2.2.2.2.2.2.2.2.1 r250.2.2.2.2.2.2.2.2.2.1 r250.2.2.2.2.2.2.2.2.2.2.1 r250.2.2.2.2.2.2.2.2.2.2.2.1 r250.2.2.2.2.2.2.2.2.2.2.2.2.1 r250.2.2.2.2.2.2.2.2.2.2.2.2.2.1 r250.2.2.2.2.2.2.2.2.2.2.2.2.2.2.1 r250.2.2.2.2.2.2.2.2.2.2.2.2.2.2.2.1 r250.2.2.2.2.2.2.2.2.2.2.2.2.2.2.2.2.1 r250.2.2.2.2.2.2.2.2.2.2.2.2.2.2.2.2.2.1 r250.2.2.2.2.2.2.2.2.2.2.2.2.2.2.2.2.2.2.1 r250.2.2.2.2.2.2.2.2.2.2.2.2.2.2.2.2.2.2.2.1 r250.2.2.2.2.2.2.2.2.2.2.2.2.2.2.2.2.2.2.2.2.1 r250.2.2.2.2.2.2.2.2.2.2.2.2.2.2.2.2.2.2.2.2.2)] (fun (r : Sl × Bool) => (Value.tuple #[(Sl.v r.1), (Value.bool r.2)])) w15 fun r251 w16 =>
    jp (fun J256 => cnd (((!r136.2) || (!r159.2)) || (!r205.2))
      (
      J256 true
      )
      (
      jp (fun J258 => cnd (!r251.2)
        (
        ld Sl.v ((Addr.mk b9 0 none).add 12) w16 fun x260 =>
        ld Sl.v ((Addr.mk b10 0 none).add 12) w16 fun x261 =>
        J258 (decide ((IntKind.i64.wrap ((x260.len : Int) + (x261.len : Int))) ≤ 20))
        )
        (
        J258 false
        ))
      fun c262 =>
      J256 c262
      ))
    fun c263 =>
    cnd (c263)
      (
      K false w16
      )
      (
      L23 (Addr.mk b9 0 none) w16 fun x265 x266 x267 x268 x269 x270 x271 x272 x273 x274 x275 x276 x277 x278 x279 x280 x281 x282 x283 x284 x285 x286 =>
      L23 (Addr.mk b10 0 none) w16 fun x287 x288 x289 x290 x291 x292 x293 x294 x295 x296 x297 x298 x299 x300 x301 x302 x303 x304 x305 x306 x307 x308 =>
      callC Try.prog 23 #[(V23 x265 x266 x267 x268 x269 x270 x271 x272 x273 x274 x275 x276 x277 x278 x279 x280 x281 x282 x283 x284 x285 x286), (V23 x287 x288 x289 x290 x291 x292 x293 x294 x295 x296 x297 x298 x299 x300 x301 x302 x303 x304 x305 x306 x307 x308)] (fun (r : Bool) => (Value.bool r)) w16 fun r309 w17 =>
      jn (fun J310 => cnd (r309)
        (
        callC Try.prog 24 #[(Sl.v r136.1), (Sl.v r159.1)] (fun (r : Bool) => (Value.bool r)) w17 fun r312 w18 =>
        J310 (!r312) w18
        )
        (
        J310 false w17
        ))
      fun c313 w19 =>
      jn (fun J314 => cnd (c313)
        (
        J314 true w19
        )
        (
        callC Try.prog 24 #[(Sl.v r205.1), (Sl.v r136.1)] (fun (r : Bool) => (Value.bool r)) w19 fun r316 w20 =>
        J314 (!r316) w20
        ))
      fun c317 w21 =>
      jn (fun J318 => cnd (c317)
        (
        J318 true w21
        )
        (
        callC Try.prog 24 #[(Sl.v r205.1), (Sl.v r159.1)] (fun (r : Bool) => (Value.bool r)) w21 fun r320 w22 =>
        J318 (!r320) w22
        ))
      fun c321 w23 =>
      cnd (c321)
        (
        K false w23
        )
        (
        jn (fun J323 => cnd (r11)
          (
          jn (fun J325 => cnd (!r251.2)
            (
            J325 true w23
            )
            (
            callC Try.prog 24 #[(Sl.v r136.1), (Sl.v r251.1)] (fun (r : Bool) => (Value.bool r)) w23 fun r327 w24 =>
            jn (fun J328 => cnd (r327)
              (
              callC Try.prog 24 #[(Sl.v r159.1), (Sl.v r251.1)] (fun (r : Bool) => (Value.bool r)) w24 fun r330 w25 =>
              J328 r330 w25
              )
              (
              J328 false w24
              ))
            fun c331 w26 =>
            J325 c331 w26
            ))
          fun c332 w27 =>
          J323 c332 w27
          )
          (
          J323 false w23
          ))
        fun c333 w28 =>
        K c333 w28
        )
      )
    )
set_option maxRecDepth 100000 in
theorem D7 (p0_0 : ByteArray) (p0_1 : Int) (p0_2 : Int) (p0_3 : Int) (p0_4 : Bool) (p0_5 : Int) (p0_6 : Bool) (p0_7 : Bool) (p0_8 : Int) (p0_9 : Int) (p0_10 : Int) (p0_11 : Int) (p0_12 : Sl) (p0_13 : Int) (p0_14 : Int) (p0_15 : Int) (p0_16 : Int) (p0_17 : Bool) (p0_18 : Int) (p0_19 : Int) (p0_20 : Int) (p0_21 : Int) (p1_0 : ByteArray) (p1_1 : Int) (p1_2 : Int) (p1_3 : Int) (p1_4 : Bool) (p1_5 : Int) (p1_6 : Bool) (p1_7 : Bool) (p1_8 : Int) (p1_9 : Int) (p1_10 : Int) (p1_11 : Int) (p1_12 : Sl) (p1_13 : Int) (p1_14 : Int) (p1_15 : Int) (p1_16 : Int) (p1_17 : Bool) (p1_18 : Int) (p1_19 : Int) (p1_20 : Int) (p1_21 : Int) (w0 : World) (K : Bool → World → Prop) (h : F7 p0_0 p0_1 p0_2 p0_3 p0_4 p0_5 p0_6 p0_7 p0_8 p0_9 p0_10 p0_11 p0_12 p0_13 p0_14 p0_15 p0_16 p0_17 p0_18 p0_19 p0_20 p0_21 p1_0 p1_1 p1_2 p1_3 p1_4 p1_5 p1_6 p1_7 p1_8 p1_9 p1_10 p1_11 p1_12 p1_13 p1_14 p1_15 p1_16 p1_17 p1_18 p1_19 p1_20 p1_21 w0 K) : callC Try.prog 7 #[(V23 p0_0 p0_1 p0_2 p0_3 p0_4 p0_5 p0_6 p0_7 p0_8 p0_9 p0_10 p0_11 p0_12 p0_13 p0_14 p0_15 p0_16 p0_17 p0_18 p0_19 p0_20 p0_21), (V23 p1_0 p1_1 p1_2 p1_3 p1_4 p1_5 p1_6 p1_7 p1_8 p1_9 p1_10 p1_11 p1_12 p1_13 p1_14 p1_15 p1_16 p1_17 p1_18 p1_19 p1_20 p1_21)] (fun (r : Bool) => (Value.bool r)) w0 K := by
  unfold F7 at h
  refine calls_of_wpC Try.func7 rfl 118 rfl (by simp) ?_
  intro ρ hρ
  have e0 : ρ 0 = (V23 p0_0 p0_1 p0_2 p0_3 p0_4 p0_5 p0_6 p0_7 p0_8 p0_9 p0_10 p0_11 p0_12 p0_13 p0_14 p0_15 p0_16 p0_17 p0_18 p0_19 p0_20 p0_21) := hρ 0
  have e1 : ρ 1 = (V23 p1_0 p1_1 p1_2 p1_3 p1_4 p1_5 p1_6 p1_7 p1_8 p1_9 p1_10 p1_11 p1_12 p1_13 p1_14 p1_15 p1_16 p1_17 p1_18 p1_19 p1_20 p1_21) := hρ 1
  clear hρ
  refine wpC_seq ?_
  refine wpC_region ?_
  obtain ⟨b9, hb9⟩ : ∃ u, u = w0.heap.size := ⟨_, rfl⟩
  obtain ⟨w1, hw9⟩ : ∃ u, u = w0.alloc (.cells (A23 p0_0 p0_1 p0_2 p0_3 p0_4 p0_5 p0_6 p0_7 p0_8 p0_9 p0_10 p0_11 p0_12 p0_13 p0_14 p0_15 p0_16 p0_17 p0_18 p0_19 p0_20 p0_21) 24) := ⟨_, rfl⟩
  replace h := h b9 w1 hb9 hw9
  refine wpR_val (v := (Value.pointer (some (Addr.mk b9 0 none)))) (w' := w1) rfl rfl rfl ((x_box (v := (V23 p0_0 p0_1 p0_2 p0_3 p0_4 p0_5 p0_6 p0_7 p0_8 p0_9 p0_10 p0_11 p0_12 p0_13 p0_14 p0_15 p0_16 p0_17 p0_18 p0_19 p0_20 p0_21)) rfl e0).trans (by rw [hb9, hw9]; rfl)) ?_
  obtain ⟨b10, hb10⟩ : ∃ u, u = w1.heap.size := ⟨_, rfl⟩
  obtain ⟨w2, hw10⟩ : ∃ u, u = w1.alloc (.cells (A23 p1_0 p1_1 p1_2 p1_3 p1_4 p1_5 p1_6 p1_7 p1_8 p1_9 p1_10 p1_11 p1_12 p1_13 p1_14 p1_15 p1_16 p1_17 p1_18 p1_19 p1_20 p1_21) 24) := ⟨_, rfl⟩
  replace h := h b10 w2 hb10 hw10
  refine wpR_val (v := (Value.pointer (some (Addr.mk b10 0 none)))) (w' := w2) rfl rfl rfl ((x_box (v := (V23 p1_0 p1_1 p1_2 p1_3 p1_4 p1_5 p1_6 p1_7 p1_8 p1_9 p1_10 p1_11 p1_12 p1_13 p1_14 p1_15 p1_16 p1_17 p1_18 p1_19 p1_20 p1_21)) rfl e1).trans (by rw [hb10, hw10]; rfl)) ?_
  refine wpR_val (v := (Value.bool false)) (w' := w2) rfl rfl rfl (x_assign (v := (Value.bool false)) rfl rfl) ?_
  refine wpR_nil ?_
  refine wpC_seq ?_
  refine wpC_cut (fun ρ => ρ 2 = (Value.pointer (some (Addr.mk b9 0 none))) ∧ ρ 3 = (Value.pointer (some (Addr.mk b10 0 none))) ∧ True) ⟨rfl, rfl, trivial⟩ ?_
  rintro ρ ⟨e2, e3, -⟩
  refine wpC_region ?_
  refine wpR_enter rfl rfl rfl (x_call (vs := []) rfl rfl mapl_nil Try.func8 NN_8 NB_8) (Calls.mono h ?_)
  rintro _ w3 ⟨r11, rfl, h⟩
  refine ⟨_, rfl, ?_⟩
  refine wpR_val (v := (Value.bool r11)) (w' := w3) rfl rfl rfl (x_assign (v := (Value.bool r11)) rfl rfl) ?_
  refine wpR_nil ?_
  refine wpC_seq ?_
  refine wpC_seq ?_
  refine wpC_cut (fun ρ => ρ 2 = (Value.pointer (some (Addr.mk b9 0 none))) ∧ ρ 3 = (Value.pointer (some (Addr.mk b10 0 none))) ∧ ρ 5 = (Value.bool r11) ∧ True) ⟨e2, e3, rfl, trivial⟩ ?_
  rintro ρ ⟨e2, e3, e5, -⟩
  refine wpC_region ?_
  obtain ⟨x12, q12, x13, q13, x14, q14, x15, q15, x16, q16, x17, q17, x18, q18, x19, q19, x20, q20, x21, q21, x22, q22, x23, q23, x24, q24, x25, q25, x26, q26, x27, q27, x28, q28, x29, q29, x30, q30, x31, q31, x32, q32, x33, q33, h⟩ := h
  refine wpR_val (v := (V23 x12 x13 x14 x15 x16 x17 x18 x19 x20 x21 x22 x23 x24 x25 x26 x27 x28 x29 x30 x31 x32 x33)) (w' := w3) rfl rfl rfl (x_loadN (S23 x12 x13 x14 x15 x16 x17 x18 x19 x20 x21 x22 x23 x24 x25 x26 x27 x28 x29 x30 x31 x32 x33) rfl e2 SH_24 (K23 ⟨q12, q13, q14, q15, q16, q17, q18, q19, q20, q21, q22, q23, q24, q25, q26, q27, q28, q29, q30, q31, q32, q33⟩)) ?_
  refine wpR_enter rfl rfl rfl (x_call (vs := [(V23 x12 x13 x14 x15 x16 x17 x18 x19 x20 x21 x22 x23 x24 x25 x26 x27 x28 x29 x30 x31 x32 x33)]) rfl rfl (mapl_cons rfl mapl_nil) Try.func9 NN_9 NB_9) (Calls.mono h ?_)
  rintro _ w4 ⟨r34, rfl, h⟩
  refine ⟨_, rfl, ?_⟩
  refine wpR_val (v := (Value.bool (!r34))) (w' := w4) rfl rfl rfl (x_not rfl rfl) ?_
  refine wpR_val (v := (Value.bool (!r34))) (w' := w4) rfl rfl rfl (x_move (v := (Value.bool (!r34))) rfl rfl) ?_
  obtain ⟨J35, h, hk⟩ := h
  refine wpR_joinJ 4 (fun x ρ => ρ 22 = Value.bool x ∧ ρ 2 = (Value.pointer (some (Addr.mk b9 0 none))) ∧ ρ 3 = (Value.pointer (some (Addr.mk b10 0 none))) ∧ ρ 5 = (Value.bool r11) ∧ True) (J35) ?_ ?_
  · clear hk
    rcases Bool.eq_false_or_eq_true (!r34) with hc36 | hc36
    · replace h := h.1 hc36
      refine wpR_pass (wantN rfl rfl rfl hc36) rfl rfl ?_
      refine wpR_pass (wantN rfl rfl rfl hc36) rfl rfl ?_
      refine wpR_pass (wantN rfl rfl rfl hc36) rfl rfl ?_
      refine wpR_val (v := (Value.bool true)) (w' := w4) rfl rfl rfl (x_pickT (v := (Value.bool true)) rfl rfl hc36 rfl) ?_
      refine wpR_nil ?_
      exact ⟨true, ⟨rfl, e2, e3, e5, trivial⟩, h⟩
    · replace h := h.2 hc36
      obtain ⟨x37, q37, x38, q38, x39, q39, x40, q40, x41, q41, x42, q42, x43, q43, x44, q44, x45, q45, x46, q46, x47, q47, x48, q48, x49, q49, x50, q50, x51, q51, x52, q52, x53, q53, x54, q54, x55, q55, x56, q56, x57, q57, x58, q58, h⟩ := h
      refine wpR_val (v := (V23 x37 x38 x39 x40 x41 x42 x43 x44 x45 x46 x47 x48 x49 x50 x51 x52 x53 x54 x55 x56 x57 x58)) (w' := w4) (wantG rfl rfl rfl hc36) rfl rfl (x_loadN (S23 x37 x38 x39 x40 x41 x42 x43 x44 x45 x46 x47 x48 x49 x50 x51 x52 x53 x54 x55 x56 x57 x58) rfl e3 SH_24 (K23 ⟨q37, q38, q39, q40, q41, q42, q43, q44, q45, q46, q47, q48, q49, q50, q51, q52, q53, q54, q55, q56, q57, q58⟩)) ?_
      refine wpR_enter (wantG rfl rfl rfl hc36) rfl rfl (x_call (vs := [(V23 x37 x38 x39 x40 x41 x42 x43 x44 x45 x46 x47 x48 x49 x50 x51 x52 x53 x54 x55 x56 x57 x58)]) rfl rfl (mapl_cons rfl mapl_nil) Try.func9 NN_9 NB_9) (Calls.mono h ?_)
      rintro _ w5 ⟨r59, rfl, h⟩
      refine ⟨_, rfl, ?_⟩
      refine wpR_val (v := (Value.bool (!r59))) (w' := w5) (wantG rfl rfl rfl hc36) rfl rfl (x_not rfl rfl) ?_
      refine wpR_val (v := (Value.bool (!r59))) (w' := w5) rfl rfl rfl (x_pickF (v := (Value.bool (!r59))) rfl rfl hc36 rfl) ?_
      refine wpR_nil ?_
      exact ⟨!r59, ⟨rfl, e2, e3, e5, trivial⟩, h⟩
  clear h
  rintro c60 ρ w6 ⟨e22, e2, e3, e5, -⟩ h
  replace h := hk c60 w6 h
  clear hk
  refine wpR_val (v := (Value.bool c60)) (w' := w6) rfl rfl rfl (x_move (v := (Value.bool c60)) rfl e22) ?_
  obtain ⟨J61, h, hk⟩ := h
  refine wpR_joinJ 4 (fun x ρ => ρ 27 = Value.bool x ∧ ρ 2 = (Value.pointer (some (Addr.mk b9 0 none))) ∧ ρ 3 = (Value.pointer (some (Addr.mk b10 0 none))) ∧ ρ 5 = (Value.bool r11) ∧ True) (J61) ?_ ?_
  · clear hk
    rcases Bool.eq_false_or_eq_true (c60) with hc62 | hc62
    · replace h := h.1 hc62
      refine wpR_pass (wantN rfl rfl rfl hc62) rfl rfl ?_
      refine wpR_pass (wantN rfl rfl rfl hc62) rfl rfl ?_
      refine wpR_pass (wantN rfl rfl rfl hc62) rfl rfl ?_
      refine wpR_val (v := (Value.bool true)) (w' := w6) rfl rfl rfl (x_pickT (v := (Value.bool true)) rfl rfl hc62 rfl) ?_
      refine wpR_nil ?_
      exact ⟨true, ⟨rfl, e2, e3, e5, trivial⟩, h⟩
    · replace h := h.2 hc62
      obtain ⟨x63, q63, x64, q64, x65, q65, x66, q66, x67, q67, x68, q68, x69, q69, x70, q70, x71, q71, x72, q72, x73, q73, x74, q74, x75, q75, x76, q76, x77, q77, x78, q78, x79, q79, x80, q80, x81, q81, x82, q82, x83, q83, x84, q84, h⟩ := h
      refine wpR_val (v := (V23 x63 x64 x65 x66 x67 x68 x69 x70 x71 x72 x73 x74 x75 x76 x77 x78 x79 x80 x81 x82 x83 x84)) (w' := w6) (wantG rfl rfl rfl hc62) rfl rfl (x_loadN (S23 x63 x64 x65 x66 x67 x68 x69 x70 x71 x72 x73 x74 x75 x76 x77 x78 x79 x80 x81 x82 x83 x84) rfl e2 SH_24 (K23 ⟨q63, q64, q65, q66, q67, q68, q69, q70, q71, q72, q73, q74, q75, q76, q77, q78, q79, q80, q81, q82, q83, q84⟩)) ?_
      refine wpR_enter (wantG rfl rfl rfl hc62) rfl rfl (x_call (vs := [(V23 x63 x64 x65 x66 x67 x68 x69 x70 x71 x72 x73 x74 x75 x76 x77 x78 x79 x80 x81 x82 x83 x84)]) rfl rfl (mapl_cons rfl mapl_nil) Try.func17 NN_17 NB_17) (Calls.mono h ?_)
      rintro _ w7 ⟨r85, rfl, h⟩
      refine ⟨_, rfl, ?_⟩
      refine wpR_val (v := (Value.bool (!decide (r85 = 0)))) (w' := w7) (wantG rfl rfl rfl hc62) rfl rfl (x_neq rfl rfl rfl) ?_
      refine wpR_val (v := (Value.bool (!decide (r85 = 0)))) (w' := w7) rfl rfl rfl (x_pickF (v := (Value.bool (!decide (r85 = 0)))) rfl rfl hc62 rfl) ?_
      refine wpR_nil ?_
      exact ⟨!decide (r85 = 0), ⟨rfl, e2, e3, e5, trivial⟩, h⟩
  clear h
  rintro c86 ρ w8 ⟨e27, e2, e3, e5, -⟩ h
  replace h := hk c86 w8 h
  clear hk
  refine wpR_val (v := (Value.bool c86)) (w' := w8) rfl rfl rfl (x_move (v := (Value.bool c86)) rfl e27) ?_
  obtain ⟨J87, h, hk⟩ := h
  refine wpR_joinJ 4 (fun x ρ => ρ 32 = Value.bool x ∧ ρ 2 = (Value.pointer (some (Addr.mk b9 0 none))) ∧ ρ 3 = (Value.pointer (some (Addr.mk b10 0 none))) ∧ ρ 5 = (Value.bool r11) ∧ True) (J87) ?_ ?_
  · clear hk
    rcases Bool.eq_false_or_eq_true (c86) with hc88 | hc88
    · replace h := h.1 hc88
      refine wpR_pass (wantN rfl rfl rfl hc88) rfl rfl ?_
      refine wpR_pass (wantN rfl rfl rfl hc88) rfl rfl ?_
      refine wpR_pass (wantN rfl rfl rfl hc88) rfl rfl ?_
      refine wpR_val (v := (Value.bool true)) (w' := w8) rfl rfl rfl (x_pickT (v := (Value.bool true)) rfl rfl hc88 rfl) ?_
      refine wpR_nil ?_
      exact ⟨true, ⟨rfl, e2, e3, e5, trivial⟩, h⟩
    · replace h := h.2 hc88
      obtain ⟨x89, q89, x90, q90, x91, q91, x92, q92, x93, q93, x94, q94, x95, q95, x96, q96, x97, q97, x98, q98, x99, q99, x100, q100, x101, q101, x102, q102, x103, q103, x104, q104, x105, q105, x106, q106, x107, q107, x108, q108, x109, q109, x110, q110, h⟩ := h
      refine wpR_val (v := (V23 x89 x90 x91 x92 x93 x94 x95 x96 x97 x98 x99 x100 x101 x102 x103 x104 x105 x106 x107 x108 x109 x110)) (w' := w8) (wantG rfl rfl rfl hc88) rfl rfl (x_loadN (S23 x89 x90 x91 x92 x93 x94 x95 x96 x97 x98 x99 x100 x101 x102 x103 x104 x105 x106 x107 x108 x109 x110) rfl e3 SH_24 (K23 ⟨q89, q90, q91, q92, q93, q94, q95, q96, q97, q98, q99, q100, q101, q102, q103, q104, q105, q106, q107, q108, q109, q110⟩)) ?_
      refine wpR_enter (wantG rfl rfl rfl hc88) rfl rfl (x_call (vs := [(V23 x89 x90 x91 x92 x93 x94 x95 x96 x97 x98 x99 x100 x101 x102 x103 x104 x105 x106 x107 x108 x109 x110)]) rfl rfl (mapl_cons rfl mapl_nil) Try.func17 NN_17 NB_17) (Calls.mono h ?_)
      rintro _ w9 ⟨r111, rfl, h⟩
      refine ⟨_, rfl, ?_⟩
      refine wpR_val (v := (Value.bool (!decide (r111 = 0)))) (w' := w9) (wantG rfl rfl rfl hc88) rfl rfl (x_neq rfl rfl rfl) ?_
      refine wpR_val (v := (Value.bool (!decide (r111 = 0)))) (w' := w9) rfl rfl rfl (x_pickF (v := (Value.bool (!decide (r111 = 0)))) rfl rfl hc88 rfl) ?_
      refine wpR_nil ?_
      exact ⟨!decide (r111 = 0), ⟨rfl, e2, e3, e5, trivial⟩, h⟩
  clear h
  rintro c112 ρ w10 ⟨e32, e2, e3, e5, -⟩ h
  replace h := hk c112 w10 h
  clear hk
  refine wpR_nil ?_
  refine wpC_cond (b := c112) e32 (fun hc113 => ?_) (fun hc113 => ?_)
  · replace h := h.1 hc113
    refine wpC_seq ?_
    refine wpC_region ?_
    refine wpR_val (v := (Value.bool r11)) (w' := w10) rfl rfl rfl (x_move (v := (Value.bool r11)) rfl e5) ?_
    refine wpR_val (v := (Value.bool r11)) (w' := w10) rfl rfl rfl (x_assign (v := (Value.bool r11)) rfl rfl) ?_
    refine wpR_nil ?_
    refine wpC_ret ?_
    exact ⟨.inl rfl, fun a ha => ⟨_, results_rep1 rfl ha rfl, r11, rfl, h⟩⟩
  · replace h := h.2 hc113
    refine wpC_skip ?_
    refine wpC_seq ?_
    refine wpC_region ?_
    obtain ⟨x114, q114, x115, q115, x116, q116, x117, q117, x118, q118, x119, q119, x120, q120, x121, q121, x122, q122, x123, q123, x124, q124, x125, q125, x126, q126, x127, q127, x128, q128, x129, q129, x130, q130, x131, q131, x132, q132, x133, q133, x134, q134, x135, q135, h⟩ := h
    refine wpR_val (v := (V23 x114 x115 x116 x117 x118 x119 x120 x121 x122 x123 x124 x125 x126 x127 x128 x129 x130 x131 x132 x133 x134 x135)) (w' := w10) rfl rfl rfl (x_loadN (S23 x114 x115 x116 x117 x118 x119 x120 x121 x122 x123 x124 x125 x126 x127 x128 x129 x130 x131 x132 x133 x134 x135) rfl e2 SH_24 (K23 ⟨q114, q115, q116, q117, q118, q119, q120, q121, q122, q123, q124, q125, q126, q127, q128, q129, q130, q131, q132, q133, q134, q135⟩)) ?_
    refine wpR_enter rfl rfl rfl (x_call (vs := [(V23 x114 x115 x116 x117 x118 x119 x120 x121 x122 x123 x124 x125 x126 x127 x128 x129 x130 x131 x132 x133 x134 x135)]) rfl rfl (mapl_cons rfl mapl_nil) Try.func20 NN_20 NB_20) (Calls.mono h ?_)
    rintro _ w11 ⟨r136, rfl, h⟩
    refine ⟨_, rfl, ?_⟩
    refine wpR_val (v := (Value.tuple #[(Sl.v r136.1), (Value.bool r136.2)])) (w' := w11) rfl rfl rfl (x_move (v := (Value.tuple #[(Sl.v r136.1), (Value.bool r136.2)])) rfl rfl) ?_
    refine wpR_val (v := (Sl.v r136.1)) (w' := w11) rfl rfl rfl (x_extract rfl rfl rfl) ?_
    refine wpR_val (v := (Value.bool r136.2)) (w' := w11) rfl rfl rfl (x_extract rfl rfl rfl) ?_
    refine wpR_val (v := (Sl.v r136.1)) (w' := w11) rfl rfl rfl (x_assign (v := (Sl.v r136.1)) rfl rfl) ?_
    refine wpR_val (v := (Value.bool r136.2)) (w' := w11) rfl rfl rfl (x_assign (v := (Value.bool r136.2)) rfl rfl) ?_
    refine wpR_nil ?_
    refine wpC_seq ?_
    refine wpC_cut (fun ρ => ρ 2 = (Value.pointer (some (Addr.mk b9 0 none))) ∧ ρ 3 = (Value.pointer (some (Addr.mk b10 0 none))) ∧ ρ 5 = (Value.bool r11) ∧ ρ 6 = (Sl.v r136.1) ∧ ρ 7 = (Value.bool r136.2) ∧ True) ⟨e2, e3, e5, rfl, rfl, trivial⟩ ?_
    rintro ρ ⟨e2, e3, e5, e6, e7, -⟩
    refine wpC_region ?_
    obtain ⟨x137, q137, x138, q138, x139, q139, x140, q140, x141, q141, x142, q142, x143, q143, x144, q144, x145, q145, x146, q146, x147, q147, x148, q148, x149, q149, x150, q150, x151, q151, x152, q152, x153, q153, x154, q154, x155, q155, x156, q156, x157, q157, x158, q158, h⟩ := h
    refine wpR_val (v := (V23 x137 x138 x139 x140 x141 x142 x143 x144 x145 x146 x147 x148 x149 x150 x151 x152 x153 x154 x155 x156 x157 x158)) (w' := w11) rfl rfl rfl (x_loadN (S23 x137 x138 x139 x140 x141 x142 x143 x144 x145 x146 x147 x148 x149 x150 x151 x152 x153 x154 x155 x156 x157 x158) rfl e3 SH_24 (K23 ⟨q137, q138, q139, q140, q141, q142, q143, q144, q145, q146, q147, q148, q149, q150, q151, q152, q153, q154, q155, q156, q157, q158⟩)) ?_
    refine wpR_enter rfl rfl rfl (x_call (vs := [(V23 x137 x138 x139 x140 x141 x142 x143 x144 x145 x146 x147 x148 x149 x150 x151 x152 x153 x154 x155 x156 x157 x158)]) rfl rfl (mapl_cons rfl mapl_nil) Try.func20 NN_20 NB_20) (Calls.mono h ?_)
    rintro _ w12 ⟨r159, rfl, h⟩
    refine ⟨_, rfl, ?_⟩
    refine wpR_val (v := (Value.tuple #[(Sl.v r159.1), (Value.bool r159.2)])) (w' := w12) rfl rfl rfl (x_move (v := (Value.tuple #[(Sl.v r159.1), (Value.bool r159.2)])) rfl rfl) ?_
    refine wpR_val (v := (Sl.v r159.1)) (w' := w12) rfl rfl rfl (x_extract rfl rfl rfl) ?_
    refine wpR_val (v := (Value.bool r159.2)) (w' := w12) rfl rfl rfl (x_extract rfl rfl rfl) ?_
    refine wpR_val (v := (Sl.v r159.1)) (w' := w12) rfl rfl rfl (x_assign (v := (Sl.v r159.1)) rfl rfl) ?_
    refine wpR_val (v := (Value.bool r159.2)) (w' := w12) rfl rfl rfl (x_assign (v := (Value.bool r159.2)) rfl rfl) ?_
    refine wpR_nil ?_
    refine wpC_seq ?_
    refine wpC_cut (fun ρ => ρ 2 = (Value.pointer (some (Addr.mk b9 0 none))) ∧ ρ 3 = (Value.pointer (some (Addr.mk b10 0 none))) ∧ ρ 5 = (Value.bool r11) ∧ ρ 6 = (Sl.v r136.1) ∧ ρ 7 = (Value.bool r136.2) ∧ ρ 8 = (Sl.v r159.1) ∧ ρ 9 = (Value.bool r159.2) ∧ True) ⟨e2, e3, e5, e6, e7, rfl, rfl, trivial⟩ ?_
    rintro ρ ⟨e2, e3, e5, e6, e7, e8, e9, -⟩
    refine wpC_region ?_
    obtain ⟨x160, q160, x161, q161, x162, q162, x163, q163, x164, q164, x165, q165, x166, q166, x167, q167, x168, q168, x169, q169, x170, q170, x171, q171, x172, q172, x173, q173, x174, q174, x175, q175, x176, q176, x177, q177, x178, q178, x179, q179, x180, q180, x181, q181, h⟩ := h
    refine wpR_val (v := (V23 x160 x161 x162 x163 x164 x165 x166 x167 x168 x169 x170 x171 x172 x173 x174 x175 x176 x177 x178 x179 x180 x181)) (w' := w12) rfl rfl rfl (x_loadN (S23 x160 x161 x162 x163 x164 x165 x166 x167 x168 x169 x170 x171 x172 x173 x174 x175 x176 x177 x178 x179 x180 x181) rfl e2 SH_24 (K23 ⟨q160, q161, q162, q163, q164, q165, q166, q167, q168, q169, q170, q171, q172, q173, q174, q175, q176, q177, q178, q179, q180, q181⟩)) ?_
    obtain ⟨x182, q182, x183, q183, x184, q184, x185, q185, x186, q186, x187, q187, x188, q188, x189, q189, x190, q190, x191, q191, x192, q192, x193, q193, x194, q194, x195, q195, x196, q196, x197, q197, x198, q198, x199, q199, x200, q200, x201, q201, x202, q202, x203, q203, h⟩ := h
    refine wpR_val (v := (V23 x182 x183 x184 x185 x186 x187 x188 x189 x190 x191 x192 x193 x194 x195 x196 x197 x198 x199 x200 x201 x202 x203)) (w' := w12) rfl rfl rfl (x_loadN (S23 x182 x183 x184 x185 x186 x187 x188 x189 x190 x191 x192 x193 x194 x195 x196 x197 x198 x199 x200 x201 x202 x203) rfl e3 SH_24 (K23 ⟨q182, q183, q184, q185, q186, q187, q188, q189, q190, q191, q192, q193, q194, q195, q196, q197, q198, q199, q200, q201, q202, q203⟩)) ?_
    refine wpR_enter rfl rfl rfl (x_call (vs := [(V23 x160 x161 x162 x163 x164 x165 x166 x167 x168 x169 x170 x171 x172 x173 x174 x175 x176 x177 x178 x179 x180 x181), (V23 x182 x183 x184 x185 x186 x187 x188 x189 x190 x191 x192 x193 x194 x195 x196 x197 x198 x199 x200 x201 x202 x203)]) rfl rfl (mapl_cons rfl (mapl_cons rfl mapl_nil)) Try.func21 NN_21 NB_21) (Calls.mono h ?_)
    rintro _ w13 ⟨r204, rfl, h⟩
    refine ⟨_, rfl, ?_⟩
    refine wpR_enter rfl rfl rfl (x_call (vs := [(V23 r204.1 r204.2.1 r204.2.2.1 r204.2.2.2.1 r204.2.2.2.2.1 r204.2.2.2.2.2.1 r204.2.2.2.2.2.2.1 r204.2.2.2.2.2.2.2.1 r204.2.2.2.2.2.2.2.2.1 r204.2.2.2.2.2.2.2.2.2.1 r204.2.2.2.2.2.2.2.2.2.2.1 r204.2.2.2.2.2.2.2.2.2.2.2.1 r204.2.2.2.2.2.2.2.2.2.2.2.2.1 r204.2.2.2.2.2.2.2.2.2.2.2.2.2.1 r204.2.2.2.2.2.2.2.2.2.2.2.2.2.2.1 r204.2.2.2.2.2.2.2.2.2.2.2.2.2.2.2.1 r204.2.2.2.2.2.2.2.2.2.2.2.2.2.2.2.2.1 r204.2.2.2.2.2.2.2.2.2.2.2.2.2.2.2.2.2.1 r204.2.2.2.2.2.2.2.2.2.2.2.2.2.2.2.2.2.2.1 r204.2.2.2.2.2.2.2.2.2.2.2.2.2.2.2.2.2.2.2.1 r204.2.2.2.2.2.2.2.2.2.2.2.2.2.2.2.2.2.2.2.2.1 r204.2.2.2.2.2.2.2.2.2.2.2.2.2.2.2.2.2.2.2.2.2)]) rfl rfl (mapl_cons rfl mapl_nil) Try.func20 NN_20 NB_20) (Calls.mono h ?_)
    rintro _ w14 ⟨r205, rfl, h⟩
    refine ⟨_, rfl, ?_⟩
    refine wpR_val (v := (Value.tuple #[(Sl.v r205.1), (Value.bool r205.2)])) (w' := w14) rfl rfl rfl (x_move (v := (Value.tuple #[(Sl.v r205.1), (Value.bool r205.2)])) rfl rfl) ?_
    refine wpR_val (v := (Sl.v r205.1)) (w' := w14) rfl rfl rfl (x_extract rfl rfl rfl) ?_
    refine wpR_val (v := (Value.bool r205.2)) (w' := w14) rfl rfl rfl (x_extract rfl rfl rfl) ?_
    refine wpR_val (v := (Sl.v r205.1)) (w' := w14) rfl rfl rfl (x_assign (v := (Sl.v r205.1)) rfl rfl) ?_
    refine wpR_val (v := (Value.bool r205.2)) (w' := w14) rfl rfl rfl (x_assign (v := (Value.bool r205.2)) rfl rfl) ?_
    refine wpR_nil ?_
    refine wpC_seq ?_
    refine wpC_cut (fun ρ => ρ 2 = (Value.pointer (some (Addr.mk b9 0 none))) ∧ ρ 3 = (Value.pointer (some (Addr.mk b10 0 none))) ∧ ρ 5 = (Value.bool r11) ∧ ρ 6 = (Sl.v r136.1) ∧ ρ 7 = (Value.bool r136.2) ∧ ρ 8 = (Sl.v r159.1) ∧ ρ 9 = (Value.bool r159.2) ∧ ρ 10 = (Sl.v r205.1) ∧ ρ 11 = (Value.bool r205.2) ∧ True) ⟨e2, e3, e5, e6, e7, e8, e9, rfl, rfl, trivial⟩ ?_
    rintro ρ ⟨e2, e3, e5, e6, e7, e8, e9, e10, e11, -⟩
    refine wpC_region ?_
    obtain ⟨x206, q206, x207, q207, x208, q208, x209, q209, x210, q210, x211, q211, x212, q212, x213, q213, x214, q214, x215, q215, x216, q216, x217, q217, x218, q218, x219, q219, x220, q220, x221, q221, x222, q222, x223, q223, x224, q224, x225, q225, x226, q226, x227, q227, h⟩ := h
    refine wpR_val (v := (V23 x206 x207 x208 x209 x210 x211 x212 x213 x214 x215 x216 x217 x218 x219 x220 x221 x222 x223 x224 x225 x226 x227)) (w' := w14) rfl rfl rfl (x_loadN (S23 x206 x207 x208 x209 x210 x211 x212 x213 x214 x215 x216 x217 x218 x219 x220 x221 x222 x223 x224 x225 x226 x227) rfl e2 SH_24 (K23 ⟨q206, q207, q208, q209, q210, q211, q212, q213, q214, q215, q216, q217, q218, q219, q220, q221, q222, q223, q224, q225, q226, q227⟩)) ?_
    obtain ⟨x228, q228, x229, q229, x230, q230, x231, q231, x232, q232, x233, q233, x234, q234, x235, q235, x236, q236, x237, q237, x238, q238, x239, q239, x240, q240, x241, q241, x242, q242, x243, q243, x244, q244, x245, q245, x246, q246, x247, q247, x248, q248, x249, q249, h⟩ := h
    refine wpR_val (v := (V23 x228 x229 x230 x231 x232 x233 x234 x235 x236 x237 x238 x239 x240 x241 x242 x243 x244 x245 x246 x247 x248 x249)) (w' := w14) rfl rfl rfl (x_loadN (S23 x228 x229 x230 x231 x232 x233 x234 x235 x236 x237 x238 x239 x240 x241 x242 x243 x244 x245 x246 x247 x248 x249) rfl e3 SH_24 (K23 ⟨q228, q229, q230, q231, q232, q233, q234, q235, q236, q237, q238, q239, q240, q241, q242, q243, q244, q245, q246, q247, q248, q249⟩)) ?_
    refine wpR_enter rfl rfl rfl (x_call (vs := [(V23 x206 x207 x208 x209 x210 x211 x212 x213 x214 x215 x216 x217 x218 x219 x220 x221 x222 x223 x224 x225 x226 x227), (V23 x228 x229 x230 x231 x232 x233 x234 x235 x236 x237 x238 x239 x240 x241 x242 x243 x244 x245 x246 x247 x248 x249)]) rfl rfl (mapl_cons rfl (mapl_cons rfl mapl_nil)) Try.func22 NN_22 NB_22) (Calls.mono h ?_)
    rintro _ w15 ⟨r250, rfl, h⟩
    refine ⟨_, rfl, ?_⟩
    refine wpR_enter rfl rfl rfl (x_call (vs := [(V23 r250.1 r250.2.1 r250.2.2.1 r250.2.2.2.1 r250.2.2.2.2.1 r250.2.2.2.2.2.1 r250.2.2.2.2.2.2.1 r250.2.2.2.2.2.2.2.1 r250.2.2.2.2.2.2.2.2.1 r250.2.2.2.2.2.2.2.2.2.1 r250.2.2.2.2.2.2.2.2.2.2.1 r250.2.2.2.2.2.2.2.2.2.2.2.1 r250.2.2.2.2.2.2.2.2.2.2.2.2.1 r250.2.2.2.2.2.2.2.2.2.2.2.2.2.1 r250.2.2.2.2.2.2.2.2.2.2.2.2.2.2.1 r250.2.2.2.2.2.2.2.2.2.2.2.2.2.2.2.1 r250.2.2.2.2.2.2.2.2.2.2.2.2.2.2.2.2.1 r250.2.2.2.2.2.2.2.2.2.2.2.2.2.2.2.2.2.1 r250.2.2.2.2.2.2.2.2.2.2.2.2.2.2.2.2.2.2.1 r250.2.2.2.2.2.2.2.2.2.2.2.2.2.2.2.2.2.2.2.1 r250.2.2.2.2.2.2.2.2.2.2.2.2.2.2.2.2.2.2.2.2.1 r250.2.2.2.2.2.2.2.2.2.2.2.2.2.2.2.2.2.2.2.2.2)]) rfl rfl (mapl_cons rfl mapl_nil) Try.func20 NN_20 NB_20) (Calls.mono h ?_)
    rintro _ w16 ⟨r251, rfl, h⟩
    refine ⟨_, rfl, ?_⟩
    refine wpR_val (v := (Value.tuple #[(Sl.v r251.1), (Value.bool r251.2)])) (w' := w16) rfl rfl rfl (x_move (v := (Value.tuple #[(Sl.v r251.1), (Value.bool r251.2)])) rfl rfl) ?_
    refine wpR_val (v := (Sl.v r251.1)) (w' := w16) rfl rfl rfl (x_extract rfl rfl rfl) ?_
    refine wpR_val (v := (Value.bool r251.2)) (w' := w16) rfl rfl rfl (x_extract rfl rfl rfl) ?_
    refine wpR_val (v := (Sl.v r251.1)) (w' := w16) rfl rfl rfl (x_assign (v := (Sl.v r251.1)) rfl rfl) ?_
    refine wpR_val (v := (Value.bool r251.2)) (w' := w16) rfl rfl rfl (x_assign (v := (Value.bool r251.2)) rfl rfl) ?_
    refine wpR_nil ?_
    refine wpC_seq ?_
    refine wpC_seq ?_
    refine wpC_cut (fun ρ => ρ 2 = (Value.pointer (some (Addr.mk b9 0 none))) ∧ ρ 3 = (Value.pointer (some (Addr.mk b10 0 none))) ∧ ρ 5 = (Value.bool r11) ∧ ρ 6 = (Sl.v r136.1) ∧ ρ 7 = (Value.bool r136.2) ∧ ρ 8 = (Sl.v r159.1) ∧ ρ 9 = (Value.bool r159.2) ∧ ρ 10 = (Sl.v r205.1) ∧ ρ 11 = (Value.bool r205.2) ∧ ρ 12 = (Sl.v r251.1) ∧ ρ 13 = (Value.bool r251.2) ∧ True) ⟨e2, e3, e5, e6, e7, e8, e9, e10, e11, rfl, rfl, trivial⟩ ?_
    rintro ρ ⟨e2, e3, e5, e6, e7, e8, e9, e10, e11, e12, e13, -⟩
    refine wpC_region ?_
    refine wpR_val (v := (Value.bool r136.2)) (w' := w16) rfl rfl rfl (x_move (v := (Value.bool r136.2)) rfl e7) ?_
    refine wpR_val (v := (Value.bool (!r136.2))) (w' := w16) rfl rfl rfl (x_not rfl rfl) ?_
    refine wpR_val (v := (Value.bool (!r136.2))) (w' := w16) rfl rfl rfl (x_move (v := (Value.bool (!r136.2))) rfl rfl) ?_
    refine wpR_joinJ 3 (fun (_ : Unit) ρ => ρ 63 = Value.bool ((!r136.2) || (!r159.2)) ∧ ρ 2 = (Value.pointer (some (Addr.mk b9 0 none))) ∧ ρ 3 = (Value.pointer (some (Addr.mk b10 0 none))) ∧ ρ 5 = (Value.bool r11) ∧ ρ 6 = (Sl.v r136.1) ∧ ρ 8 = (Sl.v r159.1) ∧ ρ 10 = (Sl.v r205.1) ∧ ρ 11 = (Value.bool r205.2) ∧ ρ 12 = (Sl.v r251.1) ∧ ρ 13 = (Value.bool r251.2) ∧ True) (fun _ w => w16 = w) ?_ ?_
    · clear h
      rcases Bool.eq_false_or_eq_true (!r136.2) with hc253 | hc253
      · skip
        refine wpR_pass (wantN rfl rfl rfl hc253) rfl rfl ?_
        refine wpR_pass (wantN rfl rfl rfl hc253) rfl rfl ?_
        refine wpR_val (v := (Value.bool true)) (w' := w16) rfl rfl rfl (x_pickT (v := (Value.bool true)) rfl rfl hc253 rfl) ?_
        refine wpR_nil ?_
        exact ⟨(), ⟨(by rw [hc253]; rfl), e2, e3, e5, e6, e8, e10, e11, e12, e13, trivial⟩, rfl⟩
      · skip
        refine wpR_val (v := (Value.bool r159.2)) (w' := w16) (wantG rfl rfl rfl hc253) rfl rfl (x_move (v := (Value.bool r159.2)) rfl e9) ?_
        refine wpR_val (v := (Value.bool (!r159.2))) (w' := w16) (wantG rfl rfl rfl hc253) rfl rfl (x_not rfl rfl) ?_
        refine wpR_val (v := (Value.bool (!r159.2))) (w' := w16) rfl rfl rfl (x_pickF (v := (Value.bool (!r159.2))) rfl rfl hc253 rfl) ?_
        refine wpR_nil ?_
        exact ⟨(), ⟨(by rw [hc253]; rfl), e2, e3, e5, e6, e8, e10, e11, e12, e13, trivial⟩, rfl⟩
    rintro _ ρ wj ⟨e63, e2, e3, e5, e6, e8, e10, e11, e12, e13, -⟩ rfl
    refine wpR_val (v := (Value.bool ((!r136.2) || (!r159.2)))) (w' := w16) rfl rfl rfl (x_move (v := (Value.bool ((!r136.2) || (!r159.2)))) rfl e63) ?_
    refine wpR_joinJ 3 (fun (_ : Unit) ρ => ρ 67 = Value.bool (((!r136.2) || (!r159.2)) || (!r205.2)) ∧ ρ 2 = (Value.pointer (some (Addr.mk b9 0 none))) ∧ ρ 3 = (Value.pointer (some (Addr.mk b10 0 none))) ∧ ρ 5 = (Value.bool r11) ∧ ρ 6 = (Sl.v r136.1) ∧ ρ 8 = (Sl.v r159.1) ∧ ρ 10 = (Sl.v r205.1) ∧ ρ 12 = (Sl.v r251.1) ∧ ρ 13 = (Value.bool r251.2) ∧ True) (fun _ w => w16 = w) ?_ ?_
    · clear h
      rcases Bool.eq_false_or_eq_true ((!r136.2) || (!r159.2)) with hc255 | hc255
      · skip
        refine wpR_pass (wantN rfl rfl rfl hc255) rfl rfl ?_
        refine wpR_pass (wantN rfl rfl rfl hc255) rfl rfl ?_
        refine wpR_val (v := (Value.bool true)) (w' := w16) rfl rfl rfl (x_pickT (v := (Value.bool true)) rfl rfl hc255 rfl) ?_
        refine wpR_nil ?_
        exact ⟨(), ⟨(by rw [hc255]; rfl), e2, e3, e5, e6, e8, e10, e12, e13, trivial⟩, rfl⟩
      · skip
        refine wpR_val (v := (Value.bool r205.2)) (w' := w16) (wantG rfl rfl rfl hc255) rfl rfl (x_move (v := (Value.bool r205.2)) rfl e11) ?_
        refine wpR_val (v := (Value.bool (!r205.2))) (w' := w16) (wantG rfl rfl rfl hc255) rfl rfl (x_not rfl rfl) ?_
        refine wpR_val (v := (Value.bool (!r205.2))) (w' := w16) rfl rfl rfl (x_pickF (v := (Value.bool (!r205.2))) rfl rfl hc255 rfl) ?_
        refine wpR_nil ?_
        exact ⟨(), ⟨(by rw [hc255]; rfl), e2, e3, e5, e6, e8, e10, e12, e13, trivial⟩, rfl⟩
    rintro _ ρ wj ⟨e67, e2, e3, e5, e6, e8, e10, e12, e13, -⟩ rfl
    refine wpR_val (v := (Value.bool (((!r136.2) || (!r159.2)) || (!r205.2)))) (w' := w16) rfl rfl rfl (x_move (v := (Value.bool (((!r136.2) || (!r159.2)) || (!r205.2)))) rfl e67) ?_
    obtain ⟨J256, h, hk⟩ := h
    refine wpR_joinJ 13 (fun x ρ => ρ 81 = Value.bool x ∧ ρ 2 = (Value.pointer (some (Addr.mk b9 0 none))) ∧ ρ 3 = (Value.pointer (some (Addr.mk b10 0 none))) ∧ ρ 5 = (Value.bool r11) ∧ ρ 6 = (Sl.v r136.1) ∧ ρ 8 = (Sl.v r159.1) ∧ ρ 10 = (Sl.v r205.1) ∧ ρ 12 = (Sl.v r251.1) ∧ ρ 13 = (Value.bool r251.2) ∧ True) (fun x w => J256 x ∧ w16 = w) ?_ ?_
    · clear hk
      rcases Bool.eq_false_or_eq_true (((!r136.2) || (!r159.2)) || (!r205.2)) with hc257 | hc257
      · replace h := h.1 hc257
        refine wpR_pass (wantN rfl rfl rfl hc257) rfl rfl ?_
        refine wpR_pass (wantN rfl rfl rfl hc257) rfl rfl ?_
        refine wpR_pass (wantN rfl rfl rfl hc257) rfl rfl ?_
        refine wpR_pass (wantU rfl rfl rfl) rfl rfl ?_
        refine wpR_pass (wantU rfl rfl rfl) rfl rfl ?_
        refine wpR_pass (wantU rfl rfl rfl) rfl rfl ?_
        refine wpR_pass (wantU rfl rfl rfl) rfl rfl ?_
        refine wpR_pass (wantU rfl rfl rfl) rfl rfl ?_
        refine wpR_pass (wantU rfl rfl rfl) rfl rfl ?_
        refine wpR_pass (wantU rfl rfl rfl) rfl rfl ?_
        refine wpR_pass (wantU rfl rfl rfl) rfl rfl ?_
        refine wpR_pass (wantN rfl rfl rfl hc257) rfl rfl ?_
        refine wpR_val (v := (Value.bool true)) (w' := w16) rfl rfl rfl (x_pickT (v := (Value.bool true)) rfl rfl hc257 rfl) ?_
        refine wpR_nil ?_
        exact ⟨true, ⟨rfl, e2, e3, e5, e6, e8, e10, e12, e13, trivial⟩, h, rfl⟩
      · replace h := h.2 hc257
        refine wpR_val (v := (Value.bool r251.2)) (w' := w16) (wantG rfl rfl rfl hc257) rfl rfl (x_move (v := (Value.bool r251.2)) rfl e13) ?_
        refine wpR_val (v := (Value.bool (!r251.2))) (w' := w16) (wantG rfl rfl rfl hc257) rfl rfl (x_not rfl rfl) ?_
        refine wpR_val (v := (Value.bool (!r251.2))) (w' := w16) (wantG rfl rfl rfl hc257) rfl rfl (x_move (v := (Value.bool (!r251.2))) rfl rfl) ?_
        obtain ⟨J258, h, hk⟩ := h
        refine wpR_joinJ 9 (fun x ρ => ρ 80 = Value.bool x ∧ ρ 2 = (Value.pointer (some (Addr.mk b9 0 none))) ∧ ρ 3 = (Value.pointer (some (Addr.mk b10 0 none))) ∧ ρ 5 = (Value.bool r11) ∧ ρ 6 = (Sl.v r136.1) ∧ ρ 8 = (Sl.v r159.1) ∧ ρ 10 = (Sl.v r205.1) ∧ ρ 12 = (Sl.v r251.1) ∧ ρ 13 = (Value.bool r251.2) ∧ ρ 68 = (Value.bool (((!r136.2) || (!r159.2)) || (!r205.2))) ∧ True) (fun x w => J258 x ∧ w16 = w) ?_ ?_
        · clear hk
          rcases Bool.eq_false_or_eq_true (!r251.2) with hc259 | hc259
          · replace h := h.1 hc259
            refine wpR_val (v := (Value.pointer (some ((Addr.mk b9 0 none).add 12)))) (w' := w16) (wantG rfl rfl rfl hc259) rfl rfl (x_fieldAddr rfl e2 FA_24_12) ?_
            obtain ⟨x260, q260, h⟩ := h
            refine wpR_val (v := (Sl.v x260)) (w' := w16) (wantG rfl rfl rfl hc259) rfl rfl (x_load1 rfl rfl SH_22 q260) ?_
            refine wpR_val (v := (Value.int .i64 (x260.len : Int))) (w' := w16) (wantG rfl rfl rfl hc259) rfl rfl (x_lenS (s := x260) rfl rfl isSliceT_22) ?_
            refine wpR_val (v := (Value.pointer (some ((Addr.mk b10 0 none).add 12)))) (w' := w16) (wantG rfl rfl rfl hc259) rfl rfl (x_fieldAddr rfl e3 FA_24_12) ?_
            obtain ⟨x261, q261, h⟩ := h
            refine wpR_val (v := (Sl.v x261)) (w' := w16) (wantG rfl rfl rfl hc259) rfl rfl (x_load1 rfl rfl SH_22 q261) ?_
            refine wpR_val (v := (Value.int .i64 (x261.len : Int))) (w' := w16) (wantG rfl rfl rfl hc259) rfl rfl (x_lenS (s := x261) rfl rfl isSliceT_22) ?_
            refine wpR_val (v := (Value.int .i64 (IntKind.i64.wrap ((x260.len : Int) + (x261.len : Int))))) (w' := w16) (wantG rfl rfl rfl hc259) rfl rfl (x_add rfl rfl rfl) ?_
            refine wpR_val (v := (Value.bool (decide ((IntKind.i64.wrap ((x260.len : Int) + (x261.len : Int))) ≤ 20)))) (w' := w16) (wantG rfl rfl rfl hc259) rfl rfl (x_leq rfl rfl rfl) ?_
            refine wpR_val (v := (Value.bool (decide ((IntKind.i64.wrap ((x260.len : Int) + (x261.len : Int))) ≤ 20)))) (w' := w16) (wantG rfl rfl rfl hc257) rfl rfl (x_pickT (v := (Value.bool (decide ((IntKind.i64.wrap ((x260.len : Int) + (x261.len : Int))) ≤ 20)))) rfl rfl hc259 rfl) ?_
            refine wpR_nil ?_
            exact ⟨decide ((IntKind.i64.wrap ((x260.len : Int) + (x261.len : Int))) ≤ 20), ⟨rfl, e2, e3, e5, e6, e8, e10, e12, e13, rfl, trivial⟩, h, rfl⟩
          · replace h := h.2 hc259
            refine wpR_pass (wantN rfl rfl rfl hc259) rfl rfl ?_
            refine wpR_pass (wantN rfl rfl rfl hc259) rfl rfl ?_
            refine wpR_pass (wantN rfl rfl rfl hc259) rfl rfl ?_
            refine wpR_pass (wantN rfl rfl rfl hc259) rfl rfl ?_
            refine wpR_pass (wantN rfl rfl rfl hc259) rfl rfl ?_
            refine wpR_pass (wantN rfl rfl rfl hc259) rfl rfl ?_
            refine wpR_pass (wantN rfl rfl rfl hc259) rfl rfl ?_
            refine wpR_pass (wantN rfl rfl rfl hc259) rfl rfl ?_
            refine wpR_val (v := (Value.bool false)) (w' := w16) (wantG rfl rfl rfl hc257) rfl rfl (x_pickF (v := (Value.bool false)) rfl rfl hc259 rfl) ?_
            refine wpR_nil ?_
            exact ⟨false, ⟨rfl, e2, e3, e5, e6, e8, e10, e12, e13, rfl, trivial⟩, h, rfl⟩
        clear h
        rintro c262 ρ wj ⟨e80, e2, e3, e5, e6, e8, e10, e12, e13, e68, -⟩ ⟨h, rfl⟩
        replace h := hk c262 h
        clear hk
        refine wpR_val (v := (Value.bool c262)) (w' := w16) rfl rfl rfl (x_pickF (v := (Value.bool c262)) rfl e68 hc257 e80) ?_
        refine wpR_nil ?_
        exact ⟨c262, ⟨rfl, e2, e3, e5, e6, e8, e10, e12, e13, trivial⟩, h, rfl⟩
    clear h
    rintro c263 ρ wj ⟨e81, e2, e3, e5, e6, e8, e10, e12, e13, -⟩ ⟨h, rfl⟩
    replace h := hk c263 h
    clear hk
    refine wpR_nil ?_
    refine wpC_cond (b := c263) e81 (fun hc264 => ?_) (fun hc264 => ?_)
    · replace h := h.1 hc264
      refine wpC_seq ?_
      refine wpC_region ?_
      refine wpR_val (v := (Value.bool false)) (w' := w16) rfl rfl rfl (x_assign (v := (Value.bool false)) rfl rfl) ?_
      refine wpR_nil ?_
      refine wpC_ret ?_
      exact ⟨.inl rfl, fun a ha => ⟨_, results_rep1 rfl ha rfl, false, rfl, h⟩⟩
    · replace h := h.2 hc264
      refine wpC_skip ?_
      refine wpC_seq ?_
      refine wpC_seq ?_
      refine wpC_region ?_
      obtain ⟨x265, q265, x266, q266, x267, q267, x268, q268, x269, q269, x270, q270, x271, q271, x272, q272, x273, q273, x274, q274, x275, q275, x276, q276, x277, q277, x278, q278, x279, q279, x280, q280, x281, q281, x282, q282, x283, q283, x284, q284, x285, q285, x286, q286, h⟩ := h
      refine wpR_val (v := (V23 x265 x266 x267 x268 x269 x270 x271 x272 x273 x274 x275 x276 x277 x278 x279 x280 x281 x282 x283 x284 x285 x286)) (w' := w16) rfl rfl rfl (x_loadN (S23 x265 x266 x267 x268 x269 x270 x271 x272 x273 x274 x275 x276 x277 x278 x279 x280 x281 x282 x283 x284 x285 x286) rfl e2 SH_24 (K23 ⟨q265, q266, q267, q268, q269, q270, q271, q272, q273, q274, q275, q276, q277, q278, q279, q280, q281, q282, q283, q284, q285, q286⟩)) ?_
      obtain ⟨x287, q287, x288, q288, x289, q289, x290, q290, x291, q291, x292, q292, x293, q293, x294, q294, x295, q295, x296, q296, x297, q297, x298, q298, x299, q299, x300, q300, x301, q301, x302, q302, x303, q303, x304, q304, x305, q305, x306, q306, x307, q307, x308, q308, h⟩ := h
      refine wpR_val (v := (V23 x287 x288 x289 x290 x291 x292 x293 x294 x295 x296 x297 x298 x299 x300 x301 x302 x303 x304 x305 x306 x307 x308)) (w' := w16) rfl rfl rfl (x_loadN (S23 x287 x288 x289 x290 x291 x292 x293 x294 x295 x296 x297 x298 x299 x300 x301 x302 x303 x304 x305 x306 x307 x308) rfl e3 SH_24 (K23 ⟨q287, q288, q289, q290, q291, q292, q293, q294, q295, q296, q297, q298, q299, q300, q301, q302, q303, q304, q305, q306, q307, q308⟩)) ?_
      refine wpR_enter rfl rfl rfl (x_call (vs := [(V23 x265 x266 x267 x268 x269 x270 x271 x272 x273 x274 x275 x276 x277 x278 x279 x280 x281 x282 x283 x284 x285 x286), (V23 x287 x288 x289 x290 x291 x292 x293 x294 x295 x296 x297 x298 x299 x300 x301 x302 x303 x304 x305 x306 x307 x308)]) rfl rfl (mapl_cons rfl (mapl_cons rfl mapl_nil)) Try.func23 NN_23 NB_23) (Calls.mono h ?_)
      rintro _ w17 ⟨r309, rfl, h⟩
      refine ⟨_, rfl, ?_⟩
      refine wpR_val (v := (Value.bool r309)) (w' := w17) rfl rfl rfl (x_move (v := (Value.bool r309)) rfl rfl) ?_
      obtain ⟨J310, h, hk⟩ := h
      refine wpR_joinJ 5 (fun x ρ => ρ 90 = Value.bool x ∧ ρ 5 = (Value.bool r11) ∧ ρ 6 = (Sl.v r136.1) ∧ ρ 8 = (Sl.v r159.1) ∧ ρ 10 = (Sl.v r205.1) ∧ ρ 12 = (Sl.v r251.1) ∧ ρ 13 = (Value.bool r251.2) ∧ True) (J310) ?_ ?_
      · clear hk
        rcases Bool.eq_false_or_eq_true (r309) with hc311 | hc311
        · replace h := h.1 hc311
          refine wpR_val (v := (Sl.v r136.1)) (w' := w17) (wantG rfl rfl rfl hc311) rfl rfl (x_move (v := (Sl.v r136.1)) rfl e6) ?_
          refine wpR_val (v := (Sl.v r159.1)) (w' := w17) (wantG rfl rfl rfl hc311) rfl rfl (x_move (v := (Sl.v r159.1)) rfl e8) ?_
          refine wpR_enter (wantG rfl rfl rfl hc311) rfl rfl (x_call (vs := [(Sl.v r136.1), (Sl.v r159.1)]) rfl rfl (mapl_cons rfl (mapl_cons rfl mapl_nil)) Try.func24 NN_24 NB_24) (Calls.mono h ?_)
          rintro _ w18 ⟨r312, rfl, h⟩
          refine ⟨_, rfl, ?_⟩
          refine wpR_val (v := (Value.bool (!r312))) (w' := w18) (wantG rfl rfl rfl hc311) rfl rfl (x_not rfl rfl) ?_
          refine wpR_val (v := (Value.bool (!r312))) (w' := w18) rfl rfl rfl (x_pickT (v := (Value.bool (!r312))) rfl rfl hc311 rfl) ?_
          refine wpR_nil ?_
          exact ⟨!r312, ⟨rfl, e5, e6, e8, e10, e12, e13, trivial⟩, h⟩
        · replace h := h.2 hc311
          refine wpR_pass (wantN rfl rfl rfl hc311) rfl rfl ?_
          refine wpR_pass (wantN rfl rfl rfl hc311) rfl rfl ?_
          refine wpR_pass (wantN rfl rfl rfl hc311) rfl rfl ?_
          refine wpR_pass (wantN rfl rfl rfl hc311) rfl rfl ?_
          refine wpR_val (v := (Value.bool false)) (w' := w17) rfl rfl rfl (x_pickF (v := (Value.bool false)) rfl rfl hc311 rfl) ?_
          refine wpR_nil ?_
          exact ⟨false, ⟨rfl, e5, e6, e8, e10, e12, e13, trivial⟩, h⟩
      clear h
      rintro c313 ρ w19 ⟨e90, e5, e6, e8, e10, e12, e13, -⟩ h
      replace h := hk c313 w19 h
      clear hk
      refine wpR_val (v := (Value.bool c313)) (w' := w19) rfl rfl rfl (x_move (v := (Value.bool c313)) rfl e90) ?_
      obtain ⟨J314, h, hk⟩ := h
      refine wpR_joinJ 5 (fun x ρ => ρ 96 = Value.bool x ∧ ρ 5 = (Value.bool r11) ∧ ρ 6 = (Sl.v r136.1) ∧ ρ 8 = (Sl.v r159.1) ∧ ρ 10 = (Sl.v r205.1) ∧ ρ 12 = (Sl.v r251.1) ∧ ρ 13 = (Value.bool r251.2) ∧ True) (J314) ?_ ?_
      · clear hk
        rcases Bool.eq_false_or_eq_true (c313) with hc315 | hc315
        · replace h := h.1 hc315
          refine wpR_pass (wantN rfl rfl rfl hc315) rfl rfl ?_
          refine wpR_pass (wantN rfl rfl rfl hc315) rfl rfl ?_
          refine wpR_pass (wantN rfl rfl rfl hc315) rfl rfl ?_
          refine wpR_pass (wantN rfl rfl rfl hc315) rfl rfl ?_
          refine wpR_val (v := (Value.bool true)) (w' := w19) rfl rfl rfl (x_pickT (v := (Value.bool true)) rfl rfl hc315 rfl) ?_
          refine wpR_nil ?_
          exact ⟨true, ⟨rfl, e5, e6, e8, e10, e12, e13, trivial⟩, h⟩
        · replace h := h.2 hc315
          refine wpR_val (v := (Sl.v r205.1)) (w' := w19) (wantG rfl rfl rfl hc315) rfl rfl (x_move (v := (Sl.v r205.1)) rfl e10) ?_
          refine wpR_val (v := (Sl.v r136.1)) (w' := w19) (wantG rfl rfl rfl hc315) rfl rfl (x_move (v := (Sl.v r136.1)) rfl e6) ?_
          refine wpR_enter (wantG rfl rfl rfl hc315) rfl rfl (x_call (vs := [(Sl.v r205.1), (Sl.v r136.1)]) rfl rfl (mapl_cons rfl (mapl_cons rfl mapl_nil)) Try.func24 NN_24 NB_24) (Calls.mono h ?_)
          rintro _ w20 ⟨r316, rfl, h⟩
          refine ⟨_, rfl, ?_⟩
          refine wpR_val (v := (Value.bool (!r316))) (w' := w20) (wantG rfl rfl rfl hc315) rfl rfl (x_not rfl rfl) ?_
          refine wpR_val (v := (Value.bool (!r316))) (w' := w20) rfl rfl rfl (x_pickF (v := (Value.bool (!r316))) rfl rfl hc315 rfl) ?_
          refine wpR_nil ?_
          exact ⟨!r316, ⟨rfl, e5, e6, e8, e10, e12, e13, trivial⟩, h⟩
      clear h
      rintro c317 ρ w21 ⟨e96, e5, e6, e8, e10, e12, e13, -⟩ h
      replace h := hk c317 w21 h
      clear hk
      refine wpR_val (v := (Value.bool c317)) (w' := w21) rfl rfl rfl (x_move (v := (Value.bool c317)) rfl e96) ?_
      obtain ⟨J318, h, hk⟩ := h
      refine wpR_joinJ 5 (fun x ρ => ρ 102 = Value.bool x ∧ ρ 5 = (Value.bool r11) ∧ ρ 6 = (Sl.v r136.1) ∧ ρ 8 = (Sl.v r159.1) ∧ ρ 12 = (Sl.v r251.1) ∧ ρ 13 = (Value.bool r251.2) ∧ True) (J318) ?_ ?_
      · clear hk
        rcases Bool.eq_false_or_eq_true (c317) with hc319 | hc319
        · replace h := h.1 hc319
          refine wpR_pass (wantN rfl rfl rfl hc319) rfl rfl ?_
          refine wpR_pass (wantN rfl rfl rfl hc319) rfl rfl ?_
          refine wpR_pass (wantN rfl rfl rfl hc319) rfl rfl ?_
          refine wpR_pass (wantN rfl rfl rfl hc319) rfl rfl ?_
          refine wpR_val (v := (Value.bool true)) (w' := w21) rfl rfl rfl (x_pickT (v := (Value.bool true)) rfl rfl hc319 rfl) ?_
          refine wpR_nil ?_
          exact ⟨true, ⟨rfl, e5, e6, e8, e12, e13, trivial⟩, h⟩
        · replace h := h.2 hc319
          refine wpR_val (v := (Sl.v r205.1)) (w' := w21) (wantG rfl rfl rfl hc319) rfl rfl (x_move (v := (Sl.v r205.1)) rfl e10) ?_
          refine wpR_val (v := (Sl.v r159.1)) (w' := w21) (wantG rfl rfl rfl hc319) rfl rfl (x_move (v := (Sl.v r159.1)) rfl e8) ?_
          refine wpR_enter (wantG rfl rfl rfl hc319) rfl rfl (x_call (vs := [(Sl.v r205.1), (Sl.v r159.1)]) rfl rfl (mapl_cons rfl (mapl_cons rfl mapl_nil)) Try.func24 NN_24 NB_24) (Calls.mono h ?_)
          rintro _ w22 ⟨r320, rfl, h⟩
          refine ⟨_, rfl, ?_⟩
          refine wpR_val (v := (Value.bool (!r320))) (w' := w22) (wantG rfl rfl rfl hc319) rfl rfl (x_not rfl rfl) ?_
          refine wpR_val (v := (Value.bool (!r320))) (w' := w22) rfl rfl rfl (x_pickF (v := (Value.bool (!r320))) rfl rfl hc319 rfl) ?_
          refine wpR_nil ?_
          exact ⟨!r320, ⟨rfl, e5, e6, e8, e12, e13, trivial⟩, h⟩
      clear h
      rintro c321 ρ w23 ⟨e102, e5, e6, e8, e12, e13, -⟩ h
      replace h := hk c321 w23 h
      clear hk
      refine wpR_nil ?_
      refine wpC_cond (b := c321) e102 (fun hc322 => ?_) (fun hc322 => ?_)
      · replace h := h.1 hc322
        refine wpC_seq ?_
        refine wpC_region ?_
        refine wpR_val (v := (Value.bool false)) (w' := w23) rfl rfl rfl (x_assign (v := (Value.bool false)) rfl rfl) ?_
        refine wpR_nil ?_
        refine wpC_ret ?_
        exact ⟨.inl rfl, fun a ha => ⟨_, results_rep1 rfl ha rfl, false, rfl, h⟩⟩
      · replace h := h.2 hc322
        refine wpC_skip ?_
        refine wpC_seq ?_
        refine wpC_region ?_
        refine wpR_val (v := (Value.bool r11)) (w' := w23) rfl rfl rfl (x_move (v := (Value.bool r11)) rfl e5) ?_
        refine wpR_val (v := (Value.bool r11)) (w' := w23) rfl rfl rfl (x_move (v := (Value.bool r11)) rfl rfl) ?_
        obtain ⟨J323, h, hk⟩ := h
        refine wpR_joinJ 13 (fun x ρ => ρ 117 = Value.bool x ∧ True) (J323) ?_ ?_
        · clear hk
          rcases Bool.eq_false_or_eq_true (r11) with hc324 | hc324
          · replace h := h.1 hc324
            refine wpR_val (v := (Value.bool r251.2)) (w' := w23) (wantG rfl rfl rfl hc324) rfl rfl (x_move (v := (Value.bool r251.2)) rfl e13) ?_
            refine wpR_val (v := (Value.bool (!r251.2))) (w' := w23) (wantG rfl rfl rfl hc324) rfl rfl (x_not rfl rfl) ?_
            refine wpR_val (v := (Value.bool (!r251.2))) (w' := w23) (wantG rfl rfl rfl hc324) rfl rfl (x_move (v := (Value.bool (!r251.2))) rfl rfl) ?_
            obtain ⟨J325, h, hk⟩ := h
            refine wpR_joinJ 9 (fun x ρ => ρ 116 = Value.bool x ∧ ρ 104 = (Value.bool r11) ∧ True) (J325) ?_ ?_
            · clear hk
              rcases Bool.eq_false_or_eq_true (!r251.2) with hc326 | hc326
              · replace h := h.1 hc326
                refine wpR_pass (wantN rfl rfl rfl hc326) rfl rfl ?_
                refine wpR_pass (wantN rfl rfl rfl hc326) rfl rfl ?_
                refine wpR_pass (wantN rfl rfl rfl hc326) rfl rfl ?_
                refine wpR_pass (wantN rfl rfl rfl hc326) rfl rfl ?_
                refine wpR_pass (wantU rfl rfl rfl) rfl rfl ?_
                refine wpR_pass (wantU rfl rfl rfl) rfl rfl ?_
                refine wpR_pass (wantU rfl rfl rfl) rfl rfl ?_
                refine wpR_pass (wantN rfl rfl rfl hc326) rfl rfl ?_
                refine wpR_val (v := (Value.bool true)) (w' := w23) (wantG rfl rfl rfl hc324) rfl rfl (x_pickT (v := (Value.bool true)) rfl rfl hc326 rfl) ?_
                refine wpR_nil ?_
                exact ⟨true, ⟨rfl, rfl, trivial⟩, h⟩
              · replace h := h.2 hc326
                refine wpR_val (v := (Sl.v r136.1)) (w' := w23) (wantG rfl rfl rfl hc326) rfl rfl (x_move (v := (Sl.v r136.1)) rfl e6) ?_
                refine wpR_val (v := (Sl.v r251.1)) (w' := w23) (wantG rfl rfl rfl hc326) rfl rfl (x_move (v := (Sl.v r251.1)) rfl e12) ?_
                refine wpR_enter (wantG rfl rfl rfl hc326) rfl rfl (x_call (vs := [(Sl.v r136.1), (Sl.v r251.1)]) rfl rfl (mapl_cons rfl (mapl_cons rfl mapl_nil)) Try.func24 NN_24 NB_24) (Calls.mono h ?_)
                rintro _ w24 ⟨r327, rfl, h⟩
                refine ⟨_, rfl, ?_⟩
                refine wpR_val (v := (Value.bool r327)) (w' := w24) (wantG rfl rfl rfl hc326) rfl rfl (x_move (v := (Value.bool r327)) rfl rfl) ?_
                obtain ⟨J328, h, hk⟩ := h
                refine wpR_joinJ 4 (fun x ρ => ρ 115 = Value.bool x ∧ ρ 104 = (Value.bool r11) ∧ ρ 107 = (Value.bool (!r251.2)) ∧ True) (J328) ?_ ?_
                · clear hk
                  rcases Bool.eq_false_or_eq_true (r327) with hc329 | hc329
                  · replace h := h.1 hc329
                    refine wpR_val (v := (Sl.v r159.1)) (w' := w24) (wantG rfl rfl rfl hc329) rfl rfl (x_move (v := (Sl.v r159.1)) rfl e8) ?_
                    refine wpR_val (v := (Sl.v r251.1)) (w' := w24) (wantG rfl rfl rfl hc329) rfl rfl (x_move (v := (Sl.v r251.1)) rfl e12) ?_
                    refine wpR_enter (wantG rfl rfl rfl hc329) rfl rfl (x_call (vs := [(Sl.v r159.1), (Sl.v r251.1)]) rfl rfl (mapl_cons rfl (mapl_cons rfl mapl_nil)) Try.func24 NN_24 NB_24) (Calls.mono h ?_)
                    rintro _ w25 ⟨r330, rfl, h⟩
                    refine ⟨_, rfl, ?_⟩
                    refine wpR_val (v := (Value.bool r330)) (w' := w25) (wantG rfl rfl rfl hc326) rfl rfl (x_pickT (v := (Value.bool r330)) rfl rfl hc329 rfl) ?_
                    refine wpR_nil ?_
                    exact ⟨r330, ⟨rfl, rfl, rfl, trivial⟩, h⟩
                  · replace h := h.2 hc329
                    refine wpR_pass (wantN rfl rfl rfl hc329) rfl rfl ?_
                    refine wpR_pass (wantN rfl rfl rfl hc329) rfl rfl ?_
                    refine wpR_pass (wantN rfl rfl rfl hc329) rfl rfl ?_
                    refine wpR_val (v := (Value.bool false)) (w' := w24) (wantG rfl rfl rfl hc326) rfl rfl (x_pickF (v := (Value.bool false)) rfl rfl hc329 rfl) ?_
                    refine wpR_nil ?_
                    exact ⟨false, ⟨rfl, rfl, rfl, trivial⟩, h⟩
                clear h
                rintro c331 ρ w26 ⟨e115, e104, e107, -⟩ h
                replace h := hk c331 w26 h
                clear hk
                refine wpR_val (v := (Value.bool c331)) (w' := w26) (wantG rfl rfl e104 hc324) rfl rfl (x_pickF (v := (Value.bool c331)) rfl e107 hc326 e115) ?_
                refine wpR_nil ?_
                exact ⟨c331, ⟨rfl, e104, trivial⟩, h⟩
            clear h
            rintro c332 ρ w27 ⟨e116, e104, -⟩ h
            replace h := hk c332 w27 h
            clear hk
            refine wpR_val (v := (Value.bool c332)) (w' := w27) rfl rfl rfl (x_pickT (v := (Value.bool c332)) rfl e104 hc324 e116) ?_
            refine wpR_nil ?_
            exact ⟨c332, ⟨rfl, trivial⟩, h⟩
          · replace h := h.2 hc324
            refine wpR_pass (wantN rfl rfl rfl hc324) rfl rfl ?_
            refine wpR_pass (wantN rfl rfl rfl hc324) rfl rfl ?_
            refine wpR_pass (wantN rfl rfl rfl hc324) rfl rfl ?_
            refine wpR_pass (wantU rfl rfl rfl) rfl rfl ?_
            refine wpR_pass (wantU rfl rfl rfl) rfl rfl ?_
            refine wpR_pass (wantU rfl rfl rfl) rfl rfl ?_
            refine wpR_pass (wantU rfl rfl rfl) rfl rfl ?_
            refine wpR_pass (wantU rfl rfl rfl) rfl rfl ?_
            refine wpR_pass (wantU rfl rfl rfl) rfl rfl ?_
            refine wpR_pass (wantU rfl rfl rfl) rfl rfl ?_
            refine wpR_pass (wantU rfl rfl rfl) rfl rfl ?_
            refine wpR_pass (wantN rfl rfl rfl hc324) rfl rfl ?_
            refine wpR_val (v := (Value.bool false)) (w' := w23) rfl rfl rfl (x_pickF (v := (Value.bool false)) rfl rfl hc324 rfl) ?_
            refine wpR_nil ?_
            exact ⟨false, ⟨rfl, trivial⟩, h⟩
        clear h
        rintro c333 ρ w28 ⟨e117, -⟩ h
        replace h := hk c333 w28 h
        clear hk
        refine wpR_val (v := (Value.bool c333)) (w' := w28) rfl rfl rfl (x_assign (v := (Value.bool c333)) rfl e117) ?_
        refine wpR_nil ?_
        refine wpC_ret ?_
        exact ⟨.inl rfl, fun a ha => ⟨_, results_rep1 rfl ha rfl, c333, rfl, h⟩⟩

/-- lingualaw20.small -/
def F8  (w0 : World) (K : Bool → World → Prop) : Prop :=
  callC Try.prog 25 #[] E23 w0 fun r9 w1 =>
  nw 24 (A23 (ByteArray.mk #[]) 0 0 0 false 0 false false 0 0 0 0 Sl.nil 0 0 0 0 false 0 0 0 0) w1 fun b10 w2 =>
  st (Addr.mk b10 0 none) (S23 r9.1 r9.2.1 r9.2.2.1 r9.2.2.2.1 r9.2.2.2.2.1 r9.2.2.2.2.2.1 r9.2.2.2.2.2.2.1 r9.2.2.2.2.2.2.2.1 r9.2.2.2.2.2.2.2.2.1 r9.2.2.2.2.2.2.2.2.2.1 r9.2.2.2.2.2.2.2.2.2.2.1 r9.2.2.2.2.2.2.2.2.2.2.2.1 r9.2.2.2.2.2.2.2.2.2.2.2.2.1 r9.2.2.2.2.2.2.2.2.2.2.2.2.2.1 r9.2.2.2.2.2.2.2.2.2.2.2.2.2.2.1 r9.2.2.2.2.2.2.2.2.2.2.2.2.2.2.2.1 r9.2.2.2.2.2.2.2.2.2.2.2.2.2.2.2.2.1 r9.2.2.2.2.2.2.2.2.2.2.2.2.2.2.2.2.2.1 r9.2.2.2.2.2.2.2.2.2.2.2.2.2.2.2.2.2.2.1 r9.2.2.2.2.2.2.2.2.2.2.2.2.2.2.2.2.2.2.2.1 r9.2.2.2.2.2.2.2.2.2.2.2.2.2.2.2.2.2.2.2.2.1 r9.2.2.2.2.2.2.2.2.2.2.2.2.2.2.2.2.2.2.2.2.2) w2 fun w3 =>
  L23 (Addr.mk b10 0 none) w3 fun x12 x13 x14 x15 x16 x17 x18 x19 x20 x21 x22 x23 x24 x25 x26 x27 x28 x29 x30 x31 x32 x33 =>
  callC Try.prog 18 #[(V23 x12 x13 x14 x15 x16 x17 x18 x19 x20 x21 x22 x23 x24 x25 x26 x27 x28 x29 x30 x31 x32 x33)] (fun (r : Sl × Int) => (Value.tuple #[(Sl.v r.1), (Value.int .i64 r.2)])) w3 fun r34 w4 =>
  cnd ((!decide (r34.2 = 0)) || (!decide ((r34.1.len : Int) = 9)))
    (
    K false w4
    )
    (
    nw 44 #[(Value.int .i64 1), (Value.int .i64 4), (Value.int .i64 1), (Value.int .i64 3), (Value.int .i64 2), (Value.int .i64 0), (Value.int .i64 5), (Value.int .i64 2), (Value.int .i64 1), (Value.int .i64 7), (Value.int .i64 2), (Value.int .i64 2), (Value.int .i64 8), (Value.int .i64 4), (Value.int .i64 1)] w4 fun b38 w5 =>
    L23 (Addr.mk b10 0 none) w5 fun x39 x40 x41 x42 x43 x44 x45 x46 x47 x48 x49 x50 x51 x52 x53 x54 x55 x56 x57 x58 x59 x60 =>
    callC Try.prog 10 #[(V23 x39 x40 x41 x42 x43 x44 x45 x46 x47 x48 x49 x50 x51 x52 x53 x54 x55 x56 x57 x58 x59 x60), (Sl.v r34.1)] (fun (r : Sl × Int) => (Value.tuple #[(Sl.v r.1), (Value.int .i64 r.2)])) w5 fun r61 w6 =>
    nw 46 #[] w6 fun b62 w7 =>
    rn Try.prog (Builtin.append_ #[25, 25] 25 #[Sl.v (⟨some ⟨b62, 0, none⟩, 0, 0⟩ : Sl), Sl.v r34.1]) Sl.v w7 fun r63 w8 =>
    ix r63 3 2 fun p64 =>
    st p64 [(Value.int .i64 3), (Value.int .i64 2)] w8 fun w9 =>
    L23 (Addr.mk b10 0 none) w9 fun x66 x67 x68 x69 x70 x71 x72 x73 x74 x75 x76 x77 x78 x79 x80 x81 x82 x83 x84 x85 x86 x87 =>
    callC Try.prog 10 #[(V23 x66 x67 x68 x69 x70 x71 x72 x73 x74 x75 x76 x77 x78 x79 x80 x81 x82 x83 x84 x85 x86 x87), (Sl.v r63)] (fun (r : Sl × Int) => (Value.tuple #[(Sl.v r.1), (Value.int .i64 r.2)])) w9 fun r88 w10 =>
    nw 46 #[] w10 fun b89 w11 =>
    rn Try.prog (Builtin.append_ #[25, 25] 25 #[Sl.v (⟨some ⟨b89, 0, none⟩, 0, 0⟩ : Sl), Sl.v r34.1]) Sl.v w11 fun r90 w12 =>
    ix r90 8 2 fun p91 =>
    st p91 [(Value.int .i64 0), (Value.int .i64 0)] w12 fun w13 =>
    L23 (Addr.mk b10 0 none) w13 fun x93 x94 x95 x96 x97 x98 x99 x100 x101 x102 x103 x104 x105 x106 x107 x108 x109 x110 x111 x112 x113 x114 =>
    callC Try.prog 10 #[(V23 x93 x94 x95 x96 x97 x98 x99 x100 x101 x102 x103 x104 x105 x106 x107 x108 x109 x110 x111 x112 x113 x114), (Sl.v r90)] (fun (r : Sl × Int) => (Value.tuple #[(Sl.v r.1), (Value.int .i64 r.2)])) w13 fun r115 w14 =>
    jn (fun (J117 : Bool → World → Prop) => tk w14 fun w15 =>
      cnd (decide (r61.2 = 0))
        (
        callC Try.prog 12 #[(Sl.v r61.1), (Sl.v (⟨some ⟨b38, 0, none⟩, 5, 5⟩ : Sl))] (fun (r : Bool) => (Value.bool r)) w15 fun r119 w16 =>
        cnd (r119)
          (
          L23 (Addr.mk b10 0 none) w16 fun x121 x122 x123 x124 x125 x126 x127 x128 x129 x130 x131 x132 x133 x134 x135 x136 x137 x138 x139 x140 x141 x142 =>
          callC Try.prog 13 #[(V23 x121 x122 x123 x124 x125 x126 x127 x128 x129 x130 x131 x132 x133 x134 x135 x136 x137 x138 x139 x140 x141 x142), (Sl.v r34.1), (Sl.v r61.1)] (fun (r : Int) => (Value.int .i64 r)) w16 fun r143 w17 =>
          cnd (decide (r143 = 0))
            (
            L23 (Addr.mk b10 0 none) w17 fun x145 x146 x147 x148 x149 x150 x151 x152 x153 x154 x155 x156 x157 x158 x159 x160 x161 x162 x163 x164 x165 x166 =>
            rn Try.prog (Instr.sliceAt 26 (Sl.v (⟨some ⟨b38, 0, none⟩, 5, 5⟩ : Sl)) none (some (Value.int .i64 4)) none) (fun (r : Sl) => (Sl.v r)) w17 fun r167 w18 =>
            (C23 (Addr.mk b10 0 none) x145 x146 x147 x148 x149 x150 x151 x152 x153 x154 x155 x156 x157 x158 x159 x160 x161 x162 x163 x164 x165 x166 w18) ∧
            callC Try.prog 13 #[(V23 x145 x146 x147 x148 x149 x150 x151 x152 x153 x154 x155 x156 x157 x158 x159 x160 x161 x162 x163 x164 x165 x166), (Sl.v r34.1), (Sl.v r167)] (fun (r : Int) => (Value.int .i64 r)) w18 fun r168 w19 =>
            J117 (decide (r168 = 18)) w19
            )
            (
            J117 false w17
            )
          )
          (
          J117 false w16
          )
        )
        (
        J117 false w15
        )
    )
    fun l169 w20 =>
    jn (fun J170 => cnd (l169)
      (
      L23 (Addr.mk b10 0 none) w20 fun x172 x173 x174 x175 x176 x177 x178 x179 x180 x181 x182 x183 x184 x185 x186 x187 x188 x189 x190 x191 x192 x193 =>
      callC Try.prog 13 #[(V23 x172 x173 x174 x175 x176 x177 x178 x179 x180 x181 x182 x183 x184 x185 x186 x187 x188 x189 x190 x191 x192 x193), (Sl.v r63), (Sl.v r88.1)] (fun (r : Int) => (Value.int .i64 r)) w20 fun r194 w21 =>
      J170 (decide (r194 = 18)) w21
      )
      (
      J170 false w20
      ))
    fun c195 w22 =>
    jn (fun J196 => cnd (c195)
      (
      L23 (Addr.mk b10 0 none) w22 fun x198 x199 x200 x201 x202 x203 x204 x205 x206 x207 x208 x209 x210 x211 x212 x213 x214 x215 x216 x217 x218 x219 =>
      callC Try.prog 13 #[(V23 x198 x199 x200 x201 x202 x203 x204 x205 x206 x207 x208 x209 x210 x211 x212 x213 x214 x215 x216 x217 x218 x219), (Sl.v r90), (Sl.v r115.1)] (fun (r : Int) => (Value.int .i64 r)) w22 fun r220 w23 =>
      J196 (decide (r220 = 7)) w23
      )
      (
      J196 false w22
      ))
    fun c221 w24 =>
    jn (fun J222 => cnd (c221)
      (
      callC Try.prog 15 #[(Sl.v r61.1), (Sl.v Sl.nil)] (fun (r : Bool) => (Value.bool r)) w24 fun r224 w25 =>
      J222 r224 w25
      )
      (
      J222 false w24
      ))
    fun c225 w26 =>
    jn (fun J226 => cnd (c225)
      (
      callC Try.prog 15 #[(Sl.v r61.1), (Sl.v r61.1)] (fun (r : Bool) => (Value.bool r)) w26 fun r228 w27 =>
      J226 (!r228) w27
      )
      (
      J226 false w26
      ))
    fun c229 w28 =>
    jn (fun J230 => cnd (c229)
      (
      callC Try.prog 15 #[(Sl.v r88.1), (Sl.v r61.1)] (fun (r : Bool) => (Value.bool r)) w28 fun r232 w29 =>
      J230 r232 w29
      )
      (
      J230 false w28
      ))
    fun c233 w30 =>
    K c233 w30
    )
set_option maxRecDepth 100000 in
theorem D8  (w0 : World) (K : Bool → World → Prop) (h : F8  w0 K) : callC Try.prog 8 #[] (fun (r : Bool) => (Value.bool r)) w0 K := by
  unfold F8 at h
  refine calls_of_wpC Try.func8 rfl 115 rfl (by simp) ?_
  intro ρ hρ
  clear hρ
  refine wpC_seq ?_
  refine wpC_region ?_
  refine wpR_val (v := (Value.bool false)) (w' := w0) rfl rfl rfl (x_assign (v := (Value.bool false)) rfl rfl) ?_
  refine wpR_nil ?_
  refine wpC_seq ?_
  refine wpC_cut (fun ρ => True) trivial ?_
  rintro ρ -
  refine wpC_region ?_
  refine wpR_enter rfl rfl rfl (x_call (vs := []) rfl rfl mapl_nil Try.func25 NN_25 NB_25) (Calls.mono h ?_)
  rintro _ w1 ⟨r9, rfl, h⟩
  refine ⟨_, rfl, ?_⟩
  obtain ⟨b10, hb10⟩ : ∃ u, u = w1.heap.size := ⟨_, rfl⟩
  obtain ⟨w2, hw10⟩ : ∃ u, u = w1.alloc (.cells (A23 (ByteArray.mk #[]) 0 0 0 false 0 false false 0 0 0 0 Sl.nil 0 0 0 0 false 0 0 0 0) 24) := ⟨_, rfl⟩
  replace h := h b10 w2 hb10 hw10
  refine wpR_val (v := (Value.pointer (some (Addr.mk b10 0 none)))) (w' := w2) rfl rfl rfl ((x_alloc rfl ZV_24).trans (by rw [hb10, hw10]; rfl)) ?_
  obtain ⟨q11, h⟩ := h
  obtain ⟨w3, hw11⟩ : ∃ u, u = setAll w2 (Addr.mk b10 0 none) (S23 r9.1 r9.2.1 r9.2.2.1 r9.2.2.2.1 r9.2.2.2.2.1 r9.2.2.2.2.2.1 r9.2.2.2.2.2.2.1 r9.2.2.2.2.2.2.2.1 r9.2.2.2.2.2.2.2.2.1 r9.2.2.2.2.2.2.2.2.2.1 r9.2.2.2.2.2.2.2.2.2.2.1 r9.2.2.2.2.2.2.2.2.2.2.2.1 r9.2.2.2.2.2.2.2.2.2.2.2.2.1 r9.2.2.2.2.2.2.2.2.2.2.2.2.2.1 r9.2.2.2.2.2.2.2.2.2.2.2.2.2.2.1 r9.2.2.2.2.2.2.2.2.2.2.2.2.2.2.2.1 r9.2.2.2.2.2.2.2.2.2.2.2.2.2.2.2.2.1 r9.2.2.2.2.2.2.2.2.2.2.2.2.2.2.2.2.2.1 r9.2.2.2.2.2.2.2.2.2.2.2.2.2.2.2.2.2.2.1 r9.2.2.2.2.2.2.2.2.2.2.2.2.2.2.2.2.2.2.2.1 r9.2.2.2.2.2.2.2.2.2.2.2.2.2.2.2.2.2.2.2.2.1 r9.2.2.2.2.2.2.2.2.2.2.2.2.2.2.2.2.2.2.2.2.2) 0 := ⟨_, rfl⟩
  replace h := h w3 hw11
  refine wpR_skp (w' := w3) rfl rfl ((x_store (v := (V23 r9.1 r9.2.1 r9.2.2.1 r9.2.2.2.1 r9.2.2.2.2.1 r9.2.2.2.2.2.1 r9.2.2.2.2.2.2.1 r9.2.2.2.2.2.2.2.1 r9.2.2.2.2.2.2.2.2.1 r9.2.2.2.2.2.2.2.2.2.1 r9.2.2.2.2.2.2.2.2.2.2.1 r9.2.2.2.2.2.2.2.2.2.2.2.1 r9.2.2.2.2.2.2.2.2.2.2.2.2.1 r9.2.2.2.2.2.2.2.2.2.2.2.2.2.1 r9.2.2.2.2.2.2.2.2.2.2.2.2.2.2.1 r9.2.2.2.2.2.2.2.2.2.2.2.2.2.2.2.1 r9.2.2.2.2.2.2.2.2.2.2.2.2.2.2.2.2.1 r9.2.2.2.2.2.2.2.2.2.2.2.2.2.2.2.2.2.1 r9.2.2.2.2.2.2.2.2.2.2.2.2.2.2.2.2.2.2.1 r9.2.2.2.2.2.2.2.2.2.2.2.2.2.2.2.2.2.2.2.1 r9.2.2.2.2.2.2.2.2.2.2.2.2.2.2.2.2.2.2.2.2.1 r9.2.2.2.2.2.2.2.2.2.2.2.2.2.2.2.2.2.2.2.2.2)) rfl rfl rfl SZ_24 (ones (by rfl)) q11).trans (by rw [hw11]; rfl)) ?_
  refine wpR_nil ?_
  refine wpC_seq ?_
  refine wpC_cut (fun ρ => ρ 1 = (Value.pointer (some (Addr.mk b10 0 none))) ∧ True) ⟨rfl, trivial⟩ ?_
  rintro ρ ⟨e1, -⟩
  refine wpC_region ?_
  obtain ⟨x12, q12, x13, q13, x14, q14, x15, q15, x16, q16, x17, q17, x18, q18, x19, q19, x20, q20, x21, q21, x22, q22, x23, q23, x24, q24, x25, q25, x26, q26, x27, q27, x28, q28, x29, q29, x30, q30, x31, q31, x32, q32, x33, q33, h⟩ := h
  refine wpR_val (v := (V23 x12 x13 x14 x15 x16 x17 x18 x19 x20 x21 x22 x23 x24 x25 x26 x27 x28 x29 x30 x31 x32 x33)) (w' := w3) rfl rfl rfl (x_loadN (S23 x12 x13 x14 x15 x16 x17 x18 x19 x20 x21 x22 x23 x24 x25 x26 x27 x28 x29 x30 x31 x32 x33) rfl e1 SH_24 (K23 ⟨q12, q13, q14, q15, q16, q17, q18, q19, q20, q21, q22, q23, q24, q25, q26, q27, q28, q29, q30, q31, q32, q33⟩)) ?_
  refine wpR_enter rfl rfl rfl (x_call (vs := [(V23 x12 x13 x14 x15 x16 x17 x18 x19 x20 x21 x22 x23 x24 x25 x26 x27 x28 x29 x30 x31 x32 x33)]) rfl rfl (mapl_cons rfl mapl_nil) Try.func18 NN_18 NB_18) (Calls.mono h ?_)
  rintro _ w4 ⟨r34, rfl, h⟩
  refine ⟨_, rfl, ?_⟩
  refine wpR_val (v := (Value.tuple #[(Sl.v r34.1), (Value.int .i64 r34.2)])) (w' := w4) rfl rfl rfl (x_move (v := (Value.tuple #[(Sl.v r34.1), (Value.int .i64 r34.2)])) rfl rfl) ?_
  refine wpR_val (v := (Sl.v r34.1)) (w' := w4) rfl rfl rfl (x_extract rfl rfl rfl) ?_
  refine wpR_val (v := (Value.int .i64 r34.2)) (w' := w4) rfl rfl rfl (x_extract rfl rfl rfl) ?_
  refine wpR_val (v := (Sl.v r34.1)) (w' := w4) rfl rfl rfl (x_assign (v := (Sl.v r34.1)) rfl rfl) ?_
  refine wpR_val (v := (Value.int .i64 r34.2)) (w' := w4) rfl rfl rfl (x_assign (v := (Value.int .i64 r34.2)) rfl rfl) ?_
  refine wpR_nil ?_
  refine wpC_seq ?_
  refine wpC_seq ?_
  refine wpC_cut (fun ρ => ρ 1 = (Value.pointer (some (Addr.mk b10 0 none))) ∧ ρ 2 = (Sl.v r34.1) ∧ ρ 3 = (Value.int .i64 r34.2) ∧ True) ⟨e1, rfl, rfl, trivial⟩ ?_
  rintro ρ ⟨e1, e2, e3, -⟩
  refine wpC_region ?_
  refine wpR_val (v := (Value.int .i64 r34.2)) (w' := w4) rfl rfl rfl (x_move (v := (Value.int .i64 r34.2)) rfl e3) ?_
  refine wpR_val (v := (Value.bool (!decide (r34.2 = 0)))) (w' := w4) rfl rfl rfl (x_neq rfl rfl rfl) ?_
  refine wpR_val (v := (Value.bool (!decide (r34.2 = 0)))) (w' := w4) rfl rfl rfl (x_move (v := (Value.bool (!decide (r34.2 = 0)))) rfl rfl) ?_
  refine wpR_joinJ 4 (fun (_ : Unit) ρ => ρ 26 = Value.bool ((!decide (r34.2 = 0)) || (!decide ((r34.1.len : Int) = 9))) ∧ ρ 1 = (Value.pointer (some (Addr.mk b10 0 none))) ∧ ρ 2 = (Sl.v r34.1) ∧ True) (fun _ w => w4 = w) ?_ ?_
  · clear h
    rcases Bool.eq_false_or_eq_true (!decide (r34.2 = 0)) with hc36 | hc36
    · skip
      refine wpR_pass (wantN rfl rfl rfl hc36) rfl rfl ?_
      refine wpR_pass (wantN rfl rfl rfl hc36) rfl rfl ?_
      refine wpR_pass (wantN rfl rfl rfl hc36) rfl rfl ?_
      refine wpR_val (v := (Value.bool true)) (w' := w4) rfl rfl rfl (x_pickT (v := (Value.bool true)) rfl rfl hc36 rfl) ?_
      refine wpR_nil ?_
      exact ⟨(), ⟨(by rw [hc36]; rfl), e1, e2, trivial⟩, rfl⟩
    · skip
      refine wpR_val (v := (Sl.v r34.1)) (w' := w4) (wantG rfl rfl rfl hc36) rfl rfl (x_move (v := (Sl.v r34.1)) rfl e2) ?_
      refine wpR_val (v := (Value.int .i64 (r34.1.len : Int))) (w' := w4) (wantG rfl rfl rfl hc36) rfl rfl (x_lenS (s := r34.1) rfl rfl isSliceT_25) ?_
      refine wpR_val (v := (Value.bool (!decide ((r34.1.len : Int) = 9)))) (w' := w4) (wantG rfl rfl rfl hc36) rfl rfl (x_neq rfl rfl rfl) ?_
      refine wpR_val (v := (Value.bool (!decide ((r34.1.len : Int) = 9)))) (w' := w4) rfl rfl rfl (x_pickF (v := (Value.bool (!decide ((r34.1.len : Int) = 9)))) rfl rfl hc36 rfl) ?_
      refine wpR_nil ?_
      exact ⟨(), ⟨(by rw [hc36]; rfl), e1, e2, trivial⟩, rfl⟩
  rintro _ ρ wj ⟨e26, e1, e2, -⟩ rfl
  refine wpR_nil ?_
  refine wpC_cond (b := (!decide (r34.2 = 0)) || (!decide ((r34.1.len : Int) = 9))) e26 (fun hc37 => ?_) (fun hc37 => ?_)
  · replace h := h.1 hc37
    refine wpC_seq ?_
    refine wpC_region ?_
    refine wpR_val (v := (Value.bool false)) (w' := w4) rfl rfl rfl (x_assign (v := (Value.bool false)) rfl rfl) ?_
    refine wpR_nil ?_
    refine wpC_ret ?_
    exact ⟨.inl rfl, fun a ha => ⟨_, results_rep1 rfl ha rfl, false, rfl, h⟩⟩
  · replace h := h.2 hc37
    refine wpC_skip ?_
    refine wpC_seq ?_
    refine wpC_region ?_
    refine wpR_val (v := (Value.agg #[(Value.int .i64 1), (Value.int .i64 4), (Value.int .i64 1)])) (w' := w4) rfl rfl rfl (x_build (qs := [(0, (Value.int .i64 1)), (1, (Value.int .i64 4)), (2, (Value.int .i64 1))]) rfl (by rfl) (BD_44_0_1_2 1 4 1 _)) ?_
    refine wpR_val (v := (Value.agg #[(Value.int .i64 3), (Value.int .i64 2), (Value.int .i64 0)])) (w' := w4) rfl rfl rfl (x_build (qs := [(0, (Value.int .i64 3)), (1, (Value.int .i64 2)), (2, (Value.int .i64 0))]) rfl (by rfl) (BD_44_0_1_2 3 2 0 _)) ?_
    refine wpR_val (v := (Value.agg #[(Value.int .i64 5), (Value.int .i64 2), (Value.int .i64 1)])) (w' := w4) rfl rfl rfl (x_build (qs := [(0, (Value.int .i64 5)), (1, (Value.int .i64 2)), (2, (Value.int .i64 1))]) rfl (by rfl) (BD_44_0_1_2 5 2 1 _)) ?_
    refine wpR_val (v := (Value.agg #[(Value.int .i64 7), (Value.int .i64 2), (Value.int .i64 2)])) (w' := w4) rfl rfl rfl (x_build (qs := [(0, (Value.int .i64 7)), (1, (Value.int .i64 2)), (2, (Value.int .i64 2))]) rfl (by rfl) (BD_44_0_1_2 7 2 2 _)) ?_
    refine wpR_val (v := (Value.agg #[(Value.int .i64 8), (Value.int .i64 4), (Value.int .i64 1)])) (w' := w4) rfl rfl rfl (x_build (qs := [(0, (Value.int .i64 8)), (1, (Value.int .i64 4)), (2, (Value.int .i64 1))]) rfl (by rfl) (BD_44_0_1_2 8 4 1 _)) ?_
    obtain ⟨b38, hb38⟩ : ∃ u, u = w4.heap.size := ⟨_, rfl⟩
    obtain ⟨w5, hw38⟩ : ∃ u, u = w4.alloc (.cells #[(Value.int .i64 1), (Value.int .i64 4), (Value.int .i64 1), (Value.int .i64 3), (Value.int .i64 2), (Value.int .i64 0), (Value.int .i64 5), (Value.int .i64 2), (Value.int .i64 1), (Value.int .i64 7), (Value.int .i64 2), (Value.int .i64 2), (Value.int .i64 8), (Value.int .i64 4), (Value.int .i64 1)] 44) := ⟨_, rfl⟩
    replace h := h b38 w5 hb38 hw38
    refine wpR_val (v := (Sl.v (⟨some ⟨b38, 0, none⟩, 5, 5⟩ : Sl))) (w' := w5) rfl rfl rfl ((x_buildSlice (qs := [(0, (Value.agg #[(Value.int .i64 1), (Value.int .i64 4), (Value.int .i64 1)])), (1, (Value.agg #[(Value.int .i64 3), (Value.int .i64 2), (Value.int .i64 0)])), (2, (Value.agg #[(Value.int .i64 5), (Value.int .i64 2), (Value.int .i64 1)])), (3, (Value.agg #[(Value.int .i64 7), (Value.int .i64 2), (Value.int .i64 2)])), (4, (Value.agg #[(Value.int .i64 8), (Value.int .i64 4), (Value.int .i64 1)]))]) rfl (by rfl) (BS_26_5_0_1_2_3_4 1 4 1 3 2 0 5 2 1 7 2 2 8 4 1)).trans (by rw [← hb38, ← hw38])) ?_
    refine wpR_val (v := (Sl.v (⟨some ⟨b38, 0, none⟩, 5, 5⟩ : Sl))) (w' := w5) rfl rfl rfl (x_assign (v := (Sl.v (⟨some ⟨b38, 0, none⟩, 5, 5⟩ : Sl))) rfl rfl) ?_
    refine wpR_nil ?_
    refine wpC_seq ?_
    refine wpC_cut (fun ρ => ρ 1 = (Value.pointer (some (Addr.mk b10 0 none))) ∧ ρ 2 = (Sl.v r34.1) ∧ ρ 4 = (Sl.v (⟨some ⟨b38, 0, none⟩, 5, 5⟩ : Sl)) ∧ True) ⟨e1, e2, rfl, trivial⟩ ?_
    rintro ρ ⟨e1, e2, e4, -⟩
    refine wpC_region ?_
    obtain ⟨x39, q39, x40, q40, x41, q41, x42, q42, x43, q43, x44, q44, x45, q45, x46, q46, x47, q47, x48, q48, x49, q49, x50, q50, x51, q51, x52, q52, x53, q53, x54, q54, x55, q55, x56, q56, x57, q57, x58, q58, x59, q59, x60, q60, h⟩ := h
    refine wpR_val (v := (V23 x39 x40 x41 x42 x43 x44 x45 x46 x47 x48 x49 x50 x51 x52 x53 x54 x55 x56 x57 x58 x59 x60)) (w' := w5) rfl rfl rfl (x_loadN (S23 x39 x40 x41 x42 x43 x44 x45 x46 x47 x48 x49 x50 x51 x52 x53 x54 x55 x56 x57 x58 x59 x60) rfl e1 SH_24 (K23 ⟨q39, q40, q41, q42, q43, q44, q45, q46, q47, q48, q49, q50, q51, q52, q53, q54, q55, q56, q57, q58, q59, q60⟩)) ?_
    refine wpR_val (v := (Sl.v r34.1)) (w' := w5) rfl rfl rfl (x_move (v := (Sl.v r34.1)) rfl e2) ?_
    refine wpR_enter rfl rfl rfl (x_call (vs := [(V23 x39 x40 x41 x42 x43 x44 x45 x46 x47 x48 x49 x50 x51 x52 x53 x54 x55 x56 x57 x58 x59 x60), (Sl.v r34.1)]) rfl rfl (mapl_cons rfl (mapl_cons rfl mapl_nil)) Try.func10 NN_10 NB_10) (Calls.mono h ?_)
    rintro _ w6 ⟨r61, rfl, h⟩
    refine ⟨_, rfl, ?_⟩
    refine wpR_val (v := (Value.tuple #[(Sl.v r61.1), (Value.int .i64 r61.2)])) (w' := w6) rfl rfl rfl (x_move (v := (Value.tuple #[(Sl.v r61.1), (Value.int .i64 r61.2)])) rfl rfl) ?_
    refine wpR_val (v := (Sl.v r61.1)) (w' := w6) rfl rfl rfl (x_extract rfl rfl rfl) ?_
    refine wpR_val (v := (Value.int .i64 r61.2)) (w' := w6) rfl rfl rfl (x_extract rfl rfl rfl) ?_
    refine wpR_val (v := (Sl.v r61.1)) (w' := w6) rfl rfl rfl (x_assign (v := (Sl.v r61.1)) rfl rfl) ?_
    refine wpR_val (v := (Value.int .i64 r61.2)) (w' := w6) rfl rfl rfl (x_assign (v := (Value.int .i64 r61.2)) rfl rfl) ?_
    refine wpR_nil ?_
    refine wpC_seq ?_
    refine wpC_cut (fun ρ => ρ 1 = (Value.pointer (some (Addr.mk b10 0 none))) ∧ ρ 2 = (Sl.v r34.1) ∧ ρ 4 = (Sl.v (⟨some ⟨b38, 0, none⟩, 5, 5⟩ : Sl)) ∧ ρ 5 = (Sl.v r61.1) ∧ ρ 6 = (Value.int .i64 r61.2) ∧ True) ⟨e1, e2, e4, rfl, rfl, trivial⟩ ?_
    rintro ρ ⟨e1, e2, e4, e5, e6, -⟩
    refine wpC_region ?_
    obtain ⟨b62, hb62⟩ : ∃ u, u = w6.heap.size := ⟨_, rfl⟩
    obtain ⟨w7, hw62⟩ : ∃ u, u = w6.alloc (.cells #[] 46) := ⟨_, rfl⟩
    replace h := h b62 w7 hb62 hw62
    refine wpR_val (v := (Sl.v (⟨some ⟨b62, 0, none⟩, 0, 0⟩ : Sl))) (w' := w7) rfl rfl rfl ((x_buildSlice (qs := []) rfl (by rfl) (BS_25_0_ )).trans (by rw [← hb62, ← hw62])) ?_
    refine wpR_val (v := (Sl.v r34.1)) (w' := w7) rfl rfl rfl (x_move (v := (Sl.v r34.1)) rfl e2) ?_
    obtain ⟨r63, w8, q63, h⟩ := h
    refine wpR_val (v := (Sl.v r63)) (w' := w8) rfl rfl rfl (x_append (s := (⟨some ⟨b62, 0, none⟩, 0, 0⟩ : Sl)) (u := r34.1) rfl rfl rfl rfl q63) ?_
    refine wpR_val (v := (Sl.v r63)) (w' := w8) rfl rfl rfl (x_assign (v := (Sl.v r63)) rfl rfl) ?_
    refine wpR_nil ?_
    refine wpC_seq ?_
    refine wpC_cut (fun ρ => ρ 1 = (Value.pointer (some (Addr.mk b10 0 none))) ∧ ρ 2 = (Sl.v r34.1) ∧ ρ 4 = (Sl.v (⟨some ⟨b38, 0, none⟩, 5, 5⟩ : Sl)) ∧ ρ 5 = (Sl.v r61.1) ∧ ρ 6 = (Value.int .i64 r61.2) ∧ ρ 7 = (Sl.v r63) ∧ True) ⟨e1, e2, e4, e5, e6, rfl, trivial⟩ ?_
    rintro ρ ⟨e1, e2, e4, e5, e6, e7, -⟩
    refine wpC_region ?_
    refine wpR_val (v := (Sl.v r63)) (w' := w8) rfl rfl rfl (x_move (v := (Sl.v r63)) rfl e7) ?_
    refine wpR_val (v := (Value.agg #[(Value.int .i64 3), (Value.int .i64 2)])) (w' := w8) rfl rfl rfl (x_build (qs := [(0, (Value.int .i64 3)), (1, (Value.int .i64 2))]) rfl (by rfl) (BD_46_0_1 3 2 _)) ?_
    obtain ⟨q64, z64, r64, h⟩ := h
    generalize hp64 : z64.add ((3 : Int).toNat * 2) = p64 at h
    refine wpR_val (v := (Value.pointer (some p64))) (w' := w8) rfl rfl rfl ((x_indexAddr (s := r63) rfl rfl rfl ES_25 q64 r64).trans (by rw [hp64])) ?_
    obtain ⟨q65, h⟩ := h
    obtain ⟨w9, hw65⟩ : ∃ u, u = setAll w8 p64 [(Value.int .i64 3), (Value.int .i64 2)] 0 := ⟨_, rfl⟩
    replace h := h w9 hw65
    refine wpR_skp (w' := w9) rfl rfl ((x_store (v := (Value.agg #[(Value.int .i64 3), (Value.int .i64 2)])) rfl rfl rfl SZ_46 (ones (by rfl)) q65).trans (by rw [hw65]; rfl)) ?_
    refine wpR_nil ?_
    refine wpC_seq ?_
    refine wpC_cut (fun ρ => ρ 1 = (Value.pointer (some (Addr.mk b10 0 none))) ∧ ρ 2 = (Sl.v r34.1) ∧ ρ 4 = (Sl.v (⟨some ⟨b38, 0, none⟩, 5, 5⟩ : Sl)) ∧ ρ 5 = (Sl.v r61.1) ∧ ρ 6 = (Value.int .i64 r61.2) ∧ ρ 7 = (Sl.v r63) ∧ True) ⟨e1, e2, e4, e5, e6, e7, trivial⟩ ?_
    rintro ρ ⟨e1, e2, e4, e5, e6, e7, -⟩
    refine wpC_region ?_
    obtain ⟨x66, q66, x67, q67, x68, q68, x69, q69, x70, q70, x71, q71, x72, q72, x73, q73, x74, q74, x75, q75, x76, q76, x77, q77, x78, q78, x79, q79, x80, q80, x81, q81, x82, q82, x83, q83, x84, q84, x85, q85, x86, q86, x87, q87, h⟩ := h
    refine wpR_val (v := (V23 x66 x67 x68 x69 x70 x71 x72 x73 x74 x75 x76 x77 x78 x79 x80 x81 x82 x83 x84 x85 x86 x87)) (w' := w9) rfl rfl rfl (x_loadN (S23 x66 x67 x68 x69 x70 x71 x72 x73 x74 x75 x76 x77 x78 x79 x80 x81 x82 x83 x84 x85 x86 x87) rfl e1 SH_24 (K23 ⟨q66, q67, q68, q69, q70, q71, q72, q73, q74, q75, q76, q77, q78, q79, q80, q81, q82, q83, q84, q85, q86, q87⟩)) ?_
    refine wpR_val (v := (Sl.v r63)) (w' := w9) rfl rfl rfl (x_move (v := (Sl.v r63)) rfl e7) ?_
    refine wpR_enter rfl rfl rfl (x_call (vs := [(V23 x66 x67 x68 x69 x70 x71 x72 x73 x74 x75 x76 x77 x78 x79 x80 x81 x82 x83 x84 x85 x86 x87), (Sl.v r63)]) rfl rfl (mapl_cons rfl (mapl_cons rfl mapl_nil)) Try.func10 NN_10 NB_10) (Calls.mono h ?_)
    rintro _ w10 ⟨r88, rfl, h⟩
    refine ⟨_, rfl, ?_⟩
    refine wpR_val (v := (Value.tuple #[(Sl.v r88.1), (Value.int .i64 r88.2)])) (w' := w10) rfl rfl rfl (x_move (v := (Value.tuple #[(Sl.v r88.1), (Value.int .i64 r88.2)])) rfl rfl) ?_
    refine wpR_val (v := (Sl.v r88.1)) (w' := w10) rfl rfl rfl (x_extract rfl rfl rfl) ?_
    refine wpR_val (v := (Value.int .i64 r88.2)) (w' := w10) rfl rfl rfl (x_extract rfl rfl rfl) ?_
    refine wpR_val (v := (Sl.v r88.1)) (w' := w10) rfl rfl rfl (x_assign (v := (Sl.v r88.1)) rfl rfl) ?_
    refine wpR_val (v := (Value.int .i64 r88.2)) (w' := w10) rfl rfl rfl (x_assign (v := (Value.int .i64 r88.2)) rfl rfl) ?_
    refine wpR_nil ?_
    refine wpC_seq ?_
    refine wpC_cut (fun ρ => ρ 1 = (Value.pointer (some (Addr.mk b10 0 none))) ∧ ρ 2 = (Sl.v r34.1) ∧ ρ 4 = (Sl.v (⟨some ⟨b38, 0, none⟩, 5, 5⟩ : Sl)) ∧ ρ 5 = (Sl.v r61.1) ∧ ρ 6 = (Value.int .i64 r61.2) ∧ ρ 7 = (Sl.v r63) ∧ ρ 8 = (Sl.v r88.1) ∧ True) ⟨e1, e2, e4, e5, e6, e7, rfl, trivial⟩ ?_
    rintro ρ ⟨e1, e2, e4, e5, e6, e7, e8, -⟩
    refine wpC_region ?_
    obtain ⟨b89, hb89⟩ : ∃ u, u = w10.heap.size := ⟨_, rfl⟩
    obtain ⟨w11, hw89⟩ : ∃ u, u = w10.alloc (.cells #[] 46) := ⟨_, rfl⟩
    replace h := h b89 w11 hb89 hw89
    refine wpR_val (v := (Sl.v (⟨some ⟨b89, 0, none⟩, 0, 0⟩ : Sl))) (w' := w11) rfl rfl rfl ((x_buildSlice (qs := []) rfl (by rfl) (BS_25_0_ )).trans (by rw [← hb89, ← hw89])) ?_
    refine wpR_val (v := (Sl.v r34.1)) (w' := w11) rfl rfl rfl (x_move (v := (Sl.v r34.1)) rfl e2) ?_
    obtain ⟨r90, w12, q90, h⟩ := h
    refine wpR_val (v := (Sl.v r90)) (w' := w12) rfl rfl rfl (x_append (s := (⟨some ⟨b89, 0, none⟩, 0, 0⟩ : Sl)) (u := r34.1) rfl rfl rfl rfl q90) ?_
    refine wpR_val (v := (Sl.v r90)) (w' := w12) rfl rfl rfl (x_assign (v := (Sl.v r90)) rfl rfl) ?_
    refine wpR_nil ?_
    refine wpC_seq ?_
    refine wpC_cut (fun ρ => ρ 1 = (Value.pointer (some (Addr.mk b10 0 none))) ∧ ρ 2 = (Sl.v r34.1) ∧ ρ 4 = (Sl.v (⟨some ⟨b38, 0, none⟩, 5, 5⟩ : Sl)) ∧ ρ 5 = (Sl.v r61.1) ∧ ρ 6 = (Value.int .i64 r61.2) ∧ ρ 7 = (Sl.v r63) ∧ ρ 8 = (Sl.v r88.1) ∧ ρ 10 = (Sl.v r90) ∧ True) ⟨e1, e2, e4, e5, e6, e7, e8, rfl, trivial⟩ ?_
    rintro ρ ⟨e1, e2, e4, e5, e6, e7, e8, e10, -⟩
    refine wpC_region ?_
    refine wpR_val (v := (Sl.v r90)) (w' := w12) rfl rfl rfl (x_move (v := (Sl.v r90)) rfl e10) ?_
    refine wpR_val (v := (Value.agg #[(Value.int .i64 0), (Value.int .i64 0)])) (w' := w12) rfl rfl rfl (x_build (qs := []) rfl (by rfl) (BD_46_  _)) ?_
    obtain ⟨q91, z91, r91, h⟩ := h
    generalize hp91 : z91.add ((8 : Int).toNat * 2) = p91 at h
    refine wpR_val (v := (Value.pointer (some p91))) (w' := w12) rfl rfl rfl ((x_indexAddr (s := r90) rfl rfl rfl ES_25 q91 r91).trans (by rw [hp91])) ?_
    obtain ⟨q92, h⟩ := h
    obtain ⟨w13, hw92⟩ : ∃ u, u = setAll w12 p91 [(Value.int .i64 0), (Value.int .i64 0)] 0 := ⟨_, rfl⟩
    replace h := h w13 hw92
    refine wpR_skp (w' := w13) rfl rfl ((x_store (v := (Value.agg #[(Value.int .i64 0), (Value.int .i64 0)])) rfl rfl rfl SZ_46 (ones (by rfl)) q92).trans (by rw [hw92]; rfl)) ?_
    refine wpR_nil ?_
    refine wpC_seq ?_
    refine wpC_cut (fun ρ => ρ 1 = (Value.pointer (some (Addr.mk b10 0 none))) ∧ ρ 2 = (Sl.v r34.1) ∧ ρ 4 = (Sl.v (⟨some ⟨b38, 0, none⟩, 5, 5⟩ : Sl)) ∧ ρ 5 = (Sl.v r61.1) ∧ ρ 6 = (Value.int .i64 r61.2) ∧ ρ 7 = (Sl.v r63) ∧ ρ 8 = (Sl.v r88.1) ∧ ρ 10 = (Sl.v r90) ∧ True) ⟨e1, e2, e4, e5, e6, e7, e8, e10, trivial⟩ ?_
    rintro ρ ⟨e1, e2, e4, e5, e6, e7, e8, e10, -⟩
    refine wpC_region ?_
    obtain ⟨x93, q93, x94, q94, x95, q95, x96, q96, x97, q97, x98, q98, x99, q99, x100, q100, x101, q101, x102, q102, x103, q103, x104, q104, x105, q105, x106, q106, x107, q107, x108, q108, x109, q109, x110, q110, x111, q111, x112, q112, x113, q113, x114, q114, h⟩ := h
    refine wpR_val (v := (V23 x93 x94 x95 x96 x97 x98 x99 x100 x101 x102 x103 x104 x105 x106 x107 x108 x109 x110 x111 x112 x113 x114)) (w' := w13) rfl rfl rfl (x_loadN (S23 x93 x94 x95 x96 x97 x98 x99 x100 x101 x102 x103 x104 x105 x106 x107 x108 x109 x110 x111 x112 x113 x114) rfl e1 SH_24 (K23 ⟨q93, q94, q95, q96, q97, q98, q99, q100, q101, q102, q103, q104, q105, q106, q107, q108, q109, q110, q111, q112, q113, q114⟩)) ?_
    refine wpR_val (v := (Sl.v r90)) (w' := w13) rfl rfl rfl (x_move (v := (Sl.v r90)) rfl e10) ?_
    refine wpR_enter rfl rfl rfl (x_call (vs := [(V23 x93 x94 x95 x96 x97 x98 x99 x100 x101 x102 x103 x104 x105 x106 x107 x108 x109 x110 x111 x112 x113 x114), (Sl.v r90)]) rfl rfl (mapl_cons rfl (mapl_cons rfl mapl_nil)) Try.func10 NN_10 NB_10) (Calls.mono h ?_)
    rintro _ w14 ⟨r115, rfl, h⟩
    refine ⟨_, rfl, ?_⟩
    refine wpR_val (v := (Value.tuple #[(Sl.v r115.1), (Value.int .i64 r115.2)])) (w' := w14) rfl rfl rfl (x_move (v := (Value.tuple #[(Sl.v r115.1), (Value.int .i64 r115.2)])) rfl rfl) ?_
    refine wpR_val (v := (Sl.v r115.1)) (w' := w14) rfl rfl rfl (x_extract rfl rfl rfl) ?_
    refine wpR_val (v := (Value.int .i64 r115.2)) (w' := w14) rfl rfl rfl (x_extract rfl rfl rfl) ?_
    refine wpR_val (v := (Sl.v r115.1)) (w' := w14) rfl rfl rfl (x_assign (v := (Sl.v r115.1)) rfl rfl) ?_
    refine wpR_val (v := (Value.int .i64 r115.2)) (w' := w14) rfl rfl rfl (x_assign (v := (Value.int .i64 r115.2)) rfl rfl) ?_
    refine wpR_nil ?_
    refine wpC_seq ?_
    refine wpC_cut (fun ρ => ρ 1 = (Value.pointer (some (Addr.mk b10 0 none))) ∧ ρ 2 = (Sl.v r34.1) ∧ ρ 4 = (Sl.v (⟨some ⟨b38, 0, none⟩, 5, 5⟩ : Sl)) ∧ ρ 5 = (Sl.v r61.1) ∧ ρ 6 = (Value.int .i64 r61.2) ∧ ρ 7 = (Sl.v r63) ∧ ρ 8 = (Sl.v r88.1) ∧ ρ 10 = (Sl.v r90) ∧ ρ 11 = (Sl.v r115.1) ∧ True) ⟨e1, e2, e4, e5, e6, e7, e8, e10, rfl, trivial⟩ ?_
    rintro ρ ⟨e1, e2, e4, e5, e6, e7, e8, e10, e11, -⟩
    obtain ⟨J117, h, hk⟩ := h
    refine wpC_drawJ (by kernel_rfl) (fun (x : Bool) ρ => ρ 13 = (Value.bool x) ∧ ρ 1 = (Value.pointer (some (Addr.mk b10 0 none))) ∧ ρ 5 = (Sl.v r61.1) ∧ ρ 7 = (Sl.v r63) ∧ ρ 8 = (Sl.v r88.1) ∧ ρ 10 = (Sl.v r90) ∧ ρ 11 = (Sl.v r115.1) ∧ True) J117 ?_ ?_
    · clear hk
      unfold tk at h
      generalize w14.drew = w15 at h ⊢
      refine wpD_take (v := (Value.int .i64 r61.2)) 0 (fun _ => True) rfl (by kernel_rfl) (by kernel_rfl) (by kernel_rfl) rfl rfl rfl trivial (fun w _ => (x_move (v := (Value.int .i64 r61.2)) rfl e6)) ?_
      refine wpD_take (v := (Value.bool (decide (r61.2 = 0)))) 1 (fun _ => True) rfl (by kernel_rfl) (by kernel_rfl) (by kernel_rfl) rfl rfl rfl trivial (fun w _ => (x_eql rfl rfl rfl)) ?_
      refine wpD_take (v := (Value.bool (decide (r61.2 = 0)))) 2 (fun _ => True) rfl (by kernel_rfl) (by kernel_rfl) (by kernel_rfl) rfl rfl rfl trivial (fun w _ => (x_move (v := (Value.bool (decide (r61.2 = 0)))) rfl rfl)) ?_
      rcases Bool.eq_false_or_eq_true (decide (r61.2 = 0)) with hc118 | hc118
      · replace h := h.1 hc118
        refine wpD_take (v := (Sl.v r61.1)) 3 (fun _ => True) rfl (by kernel_rfl) (by kernel_rfl) (by kernel_rfl) (wantG rfl rfl rfl hc118) rfl rfl trivial (fun w _ => (x_move (v := (Sl.v r61.1)) rfl e5)) ?_
        refine wpD_take (v := (Sl.v (⟨some ⟨b38, 0, none⟩, 5, 5⟩ : Sl))) 4 (fun _ => True) rfl (by kernel_rfl) (by kernel_rfl) (by kernel_rfl) (wantG rfl rfl rfl hc118) rfl rfl trivial (fun w _ => (x_move (v := (Sl.v (⟨some ⟨b38, 0, none⟩, 5, 5⟩ : Sl))) rfl e4)) ?_
        refine wpD_all (rs := [5]) (by kernel_rfl) (by simp) (allD_cons ?_ allD_nil)
        refine stepD_enterL (L' := [(1, fun _ => True), (0, fun _ => True)]) rfl (wantG rfl rfl rfl hc118) rfl rfl (x_call (vs := [(Sl.v r61.1), (Sl.v (⟨some ⟨b38, 0, none⟩, 5, 5⟩ : Sl))]) rfl rfl (mapl_cons rfl (mapl_cons rfl mapl_nil)) Try.func12 NN_12 NB_12) (by kernel_rfl) (Calls.mono h ?_)
        rintro _ w16 ⟨r119, rfl, h⟩
        refine ⟨_, rfl, (held_cons trivial (held_cons trivial held_nil)), ?_⟩
        refine wpD_take (v := (Value.bool r119)) 6 (fun _ => True) rfl (by kernel_rfl) (by kernel_rfl) (by kernel_rfl) rfl rfl rfl trivial (fun w _ => (x_pickT (v := (Value.bool r119)) rfl rfl hc118 rfl)) ?_
        refine wpD_take (v := (Value.bool r119)) 7 (fun _ => True) rfl (by kernel_rfl) (by kernel_rfl) (by kernel_rfl) rfl rfl rfl trivial (fun w _ => (x_move (v := (Value.bool r119)) rfl rfl)) ?_
        rcases Bool.eq_false_or_eq_true (r119) with hc120 | hc120
        · replace h := h.1 hc120
          obtain ⟨x121, q121, x122, q122, x123, q123, x124, q124, x125, q125, x126, q126, x127, q127, x128, q128, x129, q129, x130, q130, x131, q131, x132, q132, x133, q133, x134, q134, x135, q135, x136, q136, x137, q137, x138, q138, x139, q139, x140, q140, x141, q141, x142, q142, h⟩ := h
          refine wpD_take (v := (V23 x121 x122 x123 x124 x125 x126 x127 x128 x129 x130 x131 x132 x133 x134 x135 x136 x137 x138 x139 x140 x141 x142)) 8 (fun w => C23 (Addr.mk b10 0 none) x121 x122 x123 x124 x125 x126 x127 x128 x129 x130 x131 x132 x133 x134 x135 x136 x137 x138 x139 x140 x141 x142 w) rfl (by kernel_rfl) (by kernel_rfl) (by kernel_rfl) (wantG rfl rfl rfl hc120) rfl rfl ⟨q121, q122, q123, q124, q125, q126, q127, q128, q129, q130, q131, q132, q133, q134, q135, q136, q137, q138, q139, q140, q141, q142⟩ (fun w q => (x_loadN (S23 x121 x122 x123 x124 x125 x126 x127 x128 x129 x130 x131 x132 x133 x134 x135 x136 x137 x138 x139 x140 x141 x142) rfl e1 SH_24 (K23 q))) ?_
          refine wpD_take (v := (Sl.v r34.1)) 9 (fun _ => True) rfl (by kernel_rfl) (by kernel_rfl) (by kernel_rfl) (wantG rfl rfl rfl hc120) rfl rfl trivial (fun w _ => (x_move (v := (Sl.v r34.1)) rfl e2)) ?_
          refine wpD_take (v := (Sl.v r61.1)) 10 (fun _ => True) rfl (by kernel_rfl) (by kernel_rfl) (by kernel_rfl) (wantG rfl rfl rfl hc120) rfl rfl trivial (fun w _ => (x_move (v := (Sl.v r61.1)) rfl e5)) ?_
          refine wpD_all (rs := [11]) (by kernel_rfl) (by simp) (allD_cons ?_ allD_nil)
          refine stepD_enterL (L' := [(6, fun _ => True), (1, fun _ => True), (0, fun _ => True)]) rfl (wantG rfl rfl rfl hc120) rfl rfl (x_call (vs := [(V23 x121 x122 x123 x124 x125 x126 x127 x128 x129 x130 x131 x132 x133 x134 x135 x136 x137 x138 x139 x140 x141 x142), (Sl.v r34.1), (Sl.v r61.1)]) rfl rfl (mapl_cons rfl (mapl_cons rfl (mapl_cons rfl mapl_nil))) Try.func13 NN_13 NB_13) (by kernel_rfl) (Calls.mono h ?_)
          rintro _ w17 ⟨r143, rfl, h⟩
          refine ⟨_, rfl, (held_cons trivial (held_cons trivial (held_cons trivial held_nil))), ?_⟩
          refine wpD_take (v := (Value.bool (decide (r143 = 0)))) 12 (fun _ => True) rfl (by kernel_rfl) (by kernel_rfl) (by kernel_rfl) (wantG rfl rfl rfl hc120) rfl rfl trivial (fun w _ => (x_eql rfl rfl rfl)) ?_
          refine wpD_take (v := (Value.bool (decide (r143 = 0)))) 13 (fun _ => True) rfl (by kernel_rfl) (by kernel_rfl) (by kernel_rfl) rfl rfl rfl trivial (fun w _ => (x_pickT (v := (Value.bool (decide (r143 = 0)))) rfl rfl hc120 rfl)) ?_
          refine wpD_take (v := (Value.bool (decide (r143 = 0)))) 14 (fun _ => True) rfl (by kernel_rfl) (by kernel_rfl) (by kernel_rfl) rfl rfl rfl trivial (fun w _ => (x_move (v := (Value.bool (decide (r143 = 0)))) rfl rfl)) ?_
          rcases Bool.eq_false_or_eq_true (decide (r143 = 0)) with hc144 | hc144
          · replace h := h.1 hc144
            obtain ⟨x145, q145, x146, q146, x147, q147, x148, q148, x149, q149, x150, q150, x151, q151, x152, q152, x153, q153, x154, q154, x155, q155, x156, q156, x157, q157, x158, q158, x159, q159, x160, q160, x161, q161, x162, q162, x163, q163, x164, q164, x165, q165, x166, q166, h⟩ := h
            refine wpD_take (v := (V23 x145 x146 x147 x148 x149 x150 x151 x152 x153 x154 x155 x156 x157 x158 x159 x160 x161 x162 x163 x164 x165 x166)) 15 (fun w => C23 (Addr.mk b10 0 none) x145 x146 x147 x148 x149 x150 x151 x152 x153 x154 x155 x156 x157 x158 x159 x160 x161 x162 x163 x164 x165 x166 w) rfl (by kernel_rfl) (by kernel_rfl) (by kernel_rfl) (wantG rfl rfl rfl hc144) rfl rfl ⟨q145, q146, q147, q148, q149, q150, q151, q152, q153, q154, q155, q156, q157, q158, q159, q160, q161, q162, q163, q164, q165, q166⟩ (fun w q => (x_loadN (S23 x145 x146 x147 x148 x149 x150 x151 x152 x153 x154 x155 x156 x157 x158 x159 x160 x161 x162 x163 x164 x165 x166) rfl e1 SH_24 (K23 q))) ?_
            refine wpD_take (v := (Sl.v r34.1)) 16 (fun _ => True) rfl (by kernel_rfl) (by kernel_rfl) (by kernel_rfl) (wantG rfl rfl rfl hc144) rfl rfl trivial (fun w _ => (x_move (v := (Sl.v r34.1)) rfl e2)) ?_
            refine wpD_take (v := (Sl.v (⟨some ⟨b38, 0, none⟩, 5, 5⟩ : Sl))) 17 (fun _ => True) rfl (by kernel_rfl) (by kernel_rfl) (by kernel_rfl) (wantG rfl rfl rfl hc144) rfl rfl trivial (fun w _ => (x_move (v := (Sl.v (⟨some ⟨b38, 0, none⟩, 5, 5⟩ : Sl))) rfl e4)) ?_
            refine wpD_all (rs := [18]) (by kernel_rfl) (by simp) (allD_cons ?_ allD_nil)
            obtain ⟨r167, w18, q167, h⟩ := h
            obtain ⟨o15, h⟩ := h
            refine stepD_valL (L' := [(16, fun _ => True), (15, fun w => C23 (Addr.mk b10 0 none) x145 x146 x147 x148 x149 x150 x151 x152 x153 x154 x155 x156 x157 x158 x159 x160 x161 x162 x163 x164 x165 x166 w), (13, fun _ => True), (12, fun _ => True), (6, fun _ => True), (1, fun _ => True), (0, fun _ => True)]) (v := (Sl.v r167)) (w' := w18) rfl (wantG rfl rfl rfl hc144) rfl rfl (x_sliceAt rfl rfl rfl (congrArg some rfl) rfl q167) (by kernel_rfl) (held_cons trivial (held_cons o15 (held_cons trivial (held_cons trivial (held_cons trivial (held_cons trivial (held_cons trivial held_nil))))))) ?_
            refine wpD_all (rs := [19]) (by kernel_rfl) (by simp) (allD_cons ?_ allD_nil)
            refine stepD_enterL (L' := [(13, fun _ => True), (12, fun _ => True), (6, fun _ => True), (1, fun _ => True), (0, fun _ => True)]) rfl (wantG rfl rfl rfl hc144) rfl rfl (x_call (vs := [(V23 x145 x146 x147 x148 x149 x150 x151 x152 x153 x154 x155 x156 x157 x158 x159 x160 x161 x162 x163 x164 x165 x166), (Sl.v r34.1), (Sl.v r167)]) rfl rfl (mapl_cons rfl (mapl_cons rfl (mapl_cons rfl mapl_nil))) Try.func13 NN_13 NB_13) (by kernel_rfl) (Calls.mono h ?_)
            rintro _ w19 ⟨r168, rfl, h⟩
            refine ⟨_, rfl, (held_cons trivial (held_cons trivial (held_cons trivial (held_cons trivial (held_cons trivial held_nil))))), ?_⟩
            refine wpD_take (v := (Value.bool (decide (r168 = 18)))) 20 (fun _ => True) rfl (by kernel_rfl) (by kernel_rfl) (by kernel_rfl) (wantG rfl rfl rfl hc144) rfl rfl trivial (fun w _ => (x_eql rfl rfl rfl)) ?_
            refine wpD_take (v := (Value.bool (decide (r168 = 18)))) 21 (fun _ => True) rfl (by kernel_rfl) (by kernel_rfl) (by kernel_rfl) rfl rfl rfl trivial (fun w _ => (x_pickT (v := (Value.bool (decide (r168 = 18)))) rfl rfl hc144 rfl)) ?_
            refine wpD_take (v := (Value.bool (decide (r168 = 18)))) 22 (fun _ => True) rfl (by kernel_rfl) (by kernel_rfl) (by kernel_rfl) rfl rfl rfl trivial (fun w _ => (x_assign (v := (Value.bool (decide (r168 = 18)))) rfl rfl)) ?_
            exact wpD_done (by kernel_rfl) ⟨decide (r168 = 18), ⟨rfl, e1, e5, e7, e8, e10, e11, trivial⟩, h⟩
          · replace h := h.2 hc144
            refine wpD_pass 15 rfl (by kernel_rfl) (by kernel_rfl) (by kernel_rfl) (wantN rfl rfl rfl hc144) rfl rfl ?_
            refine wpD_pass 16 rfl (by kernel_rfl) (by kernel_rfl) (by kernel_rfl) (wantN rfl rfl rfl hc144) rfl rfl ?_
            refine wpD_pass 17 rfl (by kernel_rfl) (by kernel_rfl) (by kernel_rfl) (wantN rfl rfl rfl hc144) rfl rfl ?_
            refine wpD_pass 18 rfl (by kernel_rfl) (by kernel_rfl) (by kernel_rfl) (wantN rfl rfl rfl hc144) rfl rfl ?_
            refine wpD_pass 19 rfl (by kernel_rfl) (by kernel_rfl) (by kernel_rfl) (wantN rfl rfl rfl hc144) rfl rfl ?_
            refine wpD_pass 20 rfl (by kernel_rfl) (by kernel_rfl) (by kernel_rfl) (wantN rfl rfl rfl hc144) rfl rfl ?_
            refine wpD_take (v := (Value.bool false)) 21 (fun _ => True) rfl (by kernel_rfl) (by kernel_rfl) (by kernel_rfl) rfl rfl rfl trivial (fun w _ => (x_pickF (v := (Value.bool false)) rfl rfl hc144 rfl)) ?_
            refine wpD_take (v := (Value.bool false)) 22 (fun _ => True) rfl (by kernel_rfl) (by kernel_rfl) (by kernel_rfl) rfl rfl rfl trivial (fun w _ => (x_assign (v := (Value.bool false)) rfl rfl)) ?_
            exact wpD_done (by kernel_rfl) ⟨false, ⟨rfl, e1, e5, e7, e8, e10, e11, trivial⟩, h⟩
        · replace h := h.2 hc120
          refine wpD_pass 8 rfl (by kernel_rfl) (by kernel_rfl) (by kernel_rfl) (wantN rfl rfl rfl hc120) rfl rfl ?_
          refine wpD_pass 9 rfl (by kernel_rfl) (by kernel_rfl) (by kernel_rfl) (wantN rfl rfl rfl hc120) rfl rfl ?_
          refine wpD_pass 10 rfl (by kernel_rfl) (by kernel_rfl) (by kernel_rfl) (wantN rfl rfl rfl hc120) rfl rfl ?_
          refine wpD_pass 11 rfl (by kernel_rfl) (by kernel_rfl) (by kernel_rfl) (wantN rfl rfl rfl hc120) rfl rfl ?_
          refine wpD_pass 12 rfl (by kernel_rfl) (by kernel_rfl) (by kernel_rfl) (wantN rfl rfl rfl hc120) rfl rfl ?_
          refine wpD_take (v := (Value.bool false)) 13 (fun _ => True) rfl (by kernel_rfl) (by kernel_rfl) (by kernel_rfl) rfl rfl rfl trivial (fun w _ => (x_pickF (v := (Value.bool false)) rfl rfl hc120 rfl)) ?_
          refine wpD_take (v := (Value.bool false)) 14 (fun _ => True) rfl (by kernel_rfl) (by kernel_rfl) (by kernel_rfl) rfl rfl rfl trivial (fun w _ => (x_move (v := (Value.bool false)) rfl rfl)) ?_
          refine wpD_pass 15 rfl (by kernel_rfl) (by kernel_rfl) (by kernel_rfl) (wantN rfl rfl rfl rfl) rfl rfl ?_
          refine wpD_pass 16 rfl (by kernel_rfl) (by kernel_rfl) (by kernel_rfl) (wantN rfl rfl rfl rfl) rfl rfl ?_
          refine wpD_pass 17 rfl (by kernel_rfl) (by kernel_rfl) (by kernel_rfl) (wantN rfl rfl rfl rfl) rfl rfl ?_
          refine wpD_pass 18 rfl (by kernel_rfl) (by kernel_rfl) (by kernel_rfl) (wantN rfl rfl rfl rfl) rfl rfl ?_
          refine wpD_pass 19 rfl (by kernel_rfl) (by kernel_rfl) (by kernel_rfl) (wantN rfl rfl rfl rfl) rfl rfl ?_
          refine wpD_pass 20 rfl (by kernel_rfl) (by kernel_rfl) (by kernel_rfl) (wantN rfl rfl rfl rfl) rfl rfl ?_
          refine wpD_take (v := (Value.bool false)) 21 (fun _ => True) rfl (by kernel_rfl) (by kernel_rfl) (by kernel_rfl) rfl rfl rfl trivial (fun w _ => (x_pickF (v := (Value.bool false)) rfl rfl rfl rfl)) ?_
          refine wpD_take (v := (Value.bool false)) 22 (fun _ => True) rfl (by kernel_rfl) (by kernel_rfl) (by kernel_rfl) rfl rfl rfl trivial (fun w _ => (x_assign (v := (Value.bool false)) rfl rfl)) ?_
          exact wpD_done (by kernel_rfl) ⟨false, ⟨rfl, e1, e5, e7, e8, e10, e11, trivial⟩, h⟩
      · replace h := h.2 hc118
        refine wpD_pass 3 rfl (by kernel_rfl) (by kernel_rfl) (by kernel_rfl) (wantN rfl rfl rfl hc118) rfl rfl ?_
        refine wpD_pass 4 rfl (by kernel_rfl) (by kernel_rfl) (by kernel_rfl) (wantN rfl rfl rfl hc118) rfl rfl ?_
        refine wpD_pass 5 rfl (by kernel_rfl) (by kernel_rfl) (by kernel_rfl) (wantN rfl rfl rfl hc118) rfl rfl ?_
        refine wpD_take (v := (Value.bool false)) 6 (fun _ => True) rfl (by kernel_rfl) (by kernel_rfl) (by kernel_rfl) rfl rfl rfl trivial (fun w _ => (x_pickF (v := (Value.bool false)) rfl rfl hc118 rfl)) ?_
        refine wpD_take (v := (Value.bool false)) 7 (fun _ => True) rfl (by kernel_rfl) (by kernel_rfl) (by kernel_rfl) rfl rfl rfl trivial (fun w _ => (x_move (v := (Value.bool false)) rfl rfl)) ?_
        refine wpD_pass 8 rfl (by kernel_rfl) (by kernel_rfl) (by kernel_rfl) (wantN rfl rfl rfl rfl) rfl rfl ?_
        refine wpD_pass 9 rfl (by kernel_rfl) (by kernel_rfl) (by kernel_rfl) (wantN rfl rfl rfl rfl) rfl rfl ?_
        refine wpD_pass 10 rfl (by kernel_rfl) (by kernel_rfl) (by kernel_rfl) (wantN rfl rfl rfl rfl) rfl rfl ?_
        refine wpD_pass 11 rfl (by kernel_rfl) (by kernel_rfl) (by kernel_rfl) (wantN rfl rfl rfl rfl) rfl rfl ?_
        refine wpD_pass 12 rfl (by kernel_rfl) (by kernel_rfl) (by kernel_rfl) (wantN rfl rfl rfl rfl) rfl rfl ?_
        refine wpD_take (v := (Value.bool false)) 13 (fun _ => True) rfl (by kernel_rfl) (by kernel_rfl) (by kernel_rfl) rfl rfl rfl trivial (fun w _ => (x_pickF (v := (Value.bool false)) rfl rfl rfl rfl)) ?_
        refine wpD_take (v := (Value.bool false)) 14 (fun _ => True) rfl (by kernel_rfl) (by kernel_rfl) (by kernel_rfl) rfl rfl rfl trivial (fun w _ => (x_move (v := (Value.bool false)) rfl rfl)) ?_
        refine wpD_pass 15 rfl (by kernel_rfl) (by kernel_rfl) (by kernel_rfl) (wantN rfl rfl rfl rfl) rfl rfl ?_
        refine wpD_pass 16 rfl (by kernel_rfl) (by kernel_rfl) (by kernel_rfl) (wantN rfl rfl rfl rfl) rfl rfl ?_
        refine wpD_pass 17 rfl (by kernel_rfl) (by kernel_rfl) (by kernel_rfl) (wantN rfl rfl rfl rfl) rfl rfl ?_
        refine wpD_pass 18 rfl (by kernel_rfl) (by kernel_rfl) (by kernel_rfl) (wantN rfl rfl rfl rfl) rfl rfl ?_
        refine wpD_pass 19 rfl (by kernel_rfl) (by kernel_rfl) (by kernel_rfl) (wantN rfl rfl rfl rfl) rfl rfl ?_
        refine wpD_pass 20 rfl (by kernel_rfl) (by kernel_rfl) (by kernel_rfl) (wantN rfl rfl rfl rfl) rfl rfl ?_
        refine wpD_take (v := (Value.bool false)) 21 (fun _ => True) rfl (by kernel_rfl) (by kernel_rfl) (by kernel_rfl) rfl rfl rfl trivial (fun w _ => (x_pickF (v := (Value.bool false)) rfl rfl rfl rfl)) ?_
        refine wpD_take (v := (Value.bool false)) 22 (fun _ => True) rfl (by kernel_rfl) (by kernel_rfl) (by kernel_rfl) rfl rfl rfl trivial (fun w _ => (x_assign (v := (Value.bool false)) rfl rfl)) ?_
        exact wpD_done (by kernel_rfl) ⟨false, ⟨rfl, e1, e5, e7, e8, e10, e11, trivial⟩, h⟩
    clear h
    rintro l169 ρ w20 ⟨e13, e1, e5, e7, e8, e10, e11, -⟩ h
    replace h := hk l169 w20 h
    clear hk
    refine wpC_seq ?_
    refine wpC_region ?_
    refine wpR_val (v := (Value.bool l169)) (w' := w20) rfl rfl rfl (x_move (v := (Value.bool l169)) rfl e13) ?_
    refine wpR_val (v := (Value.bool l169)) (w' := w20) rfl rfl rfl (x_move (v := (Value.bool l169)) rfl rfl) ?_
    obtain ⟨J170, h, hk⟩ := h
    refine wpR_joinJ 6 (fun x ρ => ρ 92 = Value.bool x ∧ ρ 1 = (Value.pointer (some (Addr.mk b10 0 none))) ∧ ρ 5 = (Sl.v r61.1) ∧ ρ 8 = (Sl.v r88.1) ∧ ρ 10 = (Sl.v r90) ∧ ρ 11 = (Sl.v r115.1) ∧ True) (J170) ?_ ?_
    · clear hk
      rcases Bool.eq_false_or_eq_true (l169) with hc171 | hc171
      · replace h := h.1 hc171
        obtain ⟨x172, q172, x173, q173, x174, q174, x175, q175, x176, q176, x177, q177, x178, q178, x179, q179, x180, q180, x181, q181, x182, q182, x183, q183, x184, q184, x185, q185, x186, q186, x187, q187, x188, q188, x189, q189, x190, q190, x191, q191, x192, q192, x193, q193, h⟩ := h
        refine wpR_val (v := (V23 x172 x173 x174 x175 x176 x177 x178 x179 x180 x181 x182 x183 x184 x185 x186 x187 x188 x189 x190 x191 x192 x193)) (w' := w20) (wantG rfl rfl rfl hc171) rfl rfl (x_loadN (S23 x172 x173 x174 x175 x176 x177 x178 x179 x180 x181 x182 x183 x184 x185 x186 x187 x188 x189 x190 x191 x192 x193) rfl e1 SH_24 (K23 ⟨q172, q173, q174, q175, q176, q177, q178, q179, q180, q181, q182, q183, q184, q185, q186, q187, q188, q189, q190, q191, q192, q193⟩)) ?_
        refine wpR_val (v := (Sl.v r63)) (w' := w20) (wantG rfl rfl rfl hc171) rfl rfl (x_move (v := (Sl.v r63)) rfl e7) ?_
        refine wpR_val (v := (Sl.v r88.1)) (w' := w20) (wantG rfl rfl rfl hc171) rfl rfl (x_move (v := (Sl.v r88.1)) rfl e8) ?_
        refine wpR_enter (wantG rfl rfl rfl hc171) rfl rfl (x_call (vs := [(V23 x172 x173 x174 x175 x176 x177 x178 x179 x180 x181 x182 x183 x184 x185 x186 x187 x188 x189 x190 x191 x192 x193), (Sl.v r63), (Sl.v r88.1)]) rfl rfl (mapl_cons rfl (mapl_cons rfl (mapl_cons rfl mapl_nil))) Try.func13 NN_13 NB_13) (Calls.mono h ?_)
        rintro _ w21 ⟨r194, rfl, h⟩
        refine ⟨_, rfl, ?_⟩
        refine wpR_val (v := (Value.bool (decide (r194 = 18)))) (w' := w21) (wantG rfl rfl rfl hc171) rfl rfl (x_eql rfl rfl rfl) ?_
        refine wpR_val (v := (Value.bool (decide (r194 = 18)))) (w' := w21) rfl rfl rfl (x_pickT (v := (Value.bool (decide (r194 = 18)))) rfl rfl hc171 rfl) ?_
        refine wpR_nil ?_
        exact ⟨decide (r194 = 18), ⟨rfl, e1, e5, e8, e10, e11, trivial⟩, h⟩
      · replace h := h.2 hc171
        refine wpR_pass (wantN rfl rfl rfl hc171) rfl rfl ?_
        refine wpR_pass (wantN rfl rfl rfl hc171) rfl rfl ?_
        refine wpR_pass (wantN rfl rfl rfl hc171) rfl rfl ?_
        refine wpR_pass (wantN rfl rfl rfl hc171) rfl rfl ?_
        refine wpR_pass (wantN rfl rfl rfl hc171) rfl rfl ?_
        refine wpR_val (v := (Value.bool false)) (w' := w20) rfl rfl rfl (x_pickF (v := (Value.bool false)) rfl rfl hc171 rfl) ?_
        refine wpR_nil ?_
        exact ⟨false, ⟨rfl, e1, e5, e8, e10, e11, trivial⟩, h⟩
    clear h
    rintro c195 ρ w22 ⟨e92, e1, e5, e8, e10, e11, -⟩ h
    replace h := hk c195 w22 h
    clear hk
    refine wpR_val (v := (Value.bool c195)) (w' := w22) rfl rfl rfl (x_move (v := (Value.bool c195)) rfl e92) ?_
    obtain ⟨J196, h, hk⟩ := h
    refine wpR_joinJ 6 (fun x ρ => ρ 99 = Value.bool x ∧ ρ 5 = (Sl.v r61.1) ∧ ρ 8 = (Sl.v r88.1) ∧ True) (J196) ?_ ?_
    · clear hk
      rcases Bool.eq_false_or_eq_true (c195) with hc197 | hc197
      · replace h := h.1 hc197
        obtain ⟨x198, q198, x199, q199, x200, q200, x201, q201, x202, q202, x203, q203, x204, q204, x205, q205, x206, q206, x207, q207, x208, q208, x209, q209, x210, q210, x211, q211, x212, q212, x213, q213, x214, q214, x215, q215, x216, q216, x217, q217, x218, q218, x219, q219, h⟩ := h
        refine wpR_val (v := (V23 x198 x199 x200 x201 x202 x203 x204 x205 x206 x207 x208 x209 x210 x211 x212 x213 x214 x215 x216 x217 x218 x219)) (w' := w22) (wantG rfl rfl rfl hc197) rfl rfl (x_loadN (S23 x198 x199 x200 x201 x202 x203 x204 x205 x206 x207 x208 x209 x210 x211 x212 x213 x214 x215 x216 x217 x218 x219) rfl e1 SH_24 (K23 ⟨q198, q199, q200, q201, q202, q203, q204, q205, q206, q207, q208, q209, q210, q211, q212, q213, q214, q215, q216, q217, q218, q219⟩)) ?_
        refine wpR_val (v := (Sl.v r90)) (w' := w22) (wantG rfl rfl rfl hc197) rfl rfl (x_move (v := (Sl.v r90)) rfl e10) ?_
        refine wpR_val (v := (Sl.v r115.1)) (w' := w22) (wantG rfl rfl rfl hc197) rfl rfl (x_move (v := (Sl.v r115.1)) rfl e11) ?_
        refine wpR_enter (wantG rfl rfl rfl hc197) rfl rfl (x_call (vs := [(V23 x198 x199 x200 x201 x202 x203 x204 x205 x206 x207 x208 x209 x210 x211 x212 x213 x214 x215 x216 x217 x218 x219), (Sl.v r90), (Sl.v r115.1)]) rfl rfl (mapl_cons rfl (mapl_cons rfl (mapl_cons rfl mapl_nil))) Try.func13 NN_13 NB_13) (Calls.mono h ?_)
        rintro _ w23 ⟨r220, rfl, h⟩
        refine ⟨_, rfl, ?_⟩
        refine wpR_val (v := (Value.bool (decide (r220 = 7)))) (w' := w23) (wantG rfl rfl rfl hc197) rfl rfl (x_eql rfl rfl rfl) ?_
        refine wpR_val (v := (Value.bool (decide (r220 = 7)))) (w' := w23) rfl rfl rfl (x_pickT (v := (Value.bool (decide (r220 = 7)))) rfl rfl hc197 rfl) ?_
        refine wpR_nil ?_
        exact ⟨decide (r220 = 7), ⟨rfl, e5, e8, trivial⟩, h⟩
      · replace h := h.2 hc197
        refine wpR_pass (wantN rfl rfl rfl hc197) rfl rfl ?_
        refine wpR_pass (wantN rfl rfl rfl hc197) rfl rfl ?_
        refine wpR_pass (wantN rfl rfl rfl hc197) rfl rfl ?_
        refine wpR_pass (wantN rfl rfl rfl hc197) rfl rfl ?_
        refine wpR_pass (wantN rfl rfl rfl hc197) rfl rfl ?_
        refine wpR_val (v := (Value.bool false)) (w' := w22) rfl rfl rfl (x_pickF (v := (Value.bool false)) rfl rfl hc197 rfl) ?_
        refine wpR_nil ?_
        exact ⟨false, ⟨rfl, e5, e8, trivial⟩, h⟩
    clear h
    rintro c221 ρ w24 ⟨e99, e5, e8, -⟩ h
    replace h := hk c221 w24 h
    clear hk
    refine wpR_val (v := (Value.bool c221)) (w' := w24) rfl rfl rfl (x_move (v := (Value.bool c221)) rfl e99) ?_
    obtain ⟨J222, h, hk⟩ := h
    refine wpR_joinJ 3 (fun x ρ => ρ 103 = Value.bool x ∧ ρ 5 = (Sl.v r61.1) ∧ ρ 8 = (Sl.v r88.1) ∧ True) (J222) ?_ ?_
    · clear hk
      rcases Bool.eq_false_or_eq_true (c221) with hc223 | hc223
      · replace h := h.1 hc223
        refine wpR_val (v := (Sl.v r61.1)) (w' := w24) (wantG rfl rfl rfl hc223) rfl rfl (x_move (v := (Sl.v r61.1)) rfl e5) ?_
        refine wpR_enter (wantG rfl rfl rfl hc223) rfl rfl (x_call (vs := [(Sl.v r61.1), (Sl.v Sl.nil)]) rfl rfl (mapl_cons rfl (mapl_cons rfl mapl_nil)) Try.func15 NN_15 NB_15) (Calls.mono h ?_)
        rintro _ w25 ⟨r224, rfl, h⟩
        refine ⟨_, rfl, ?_⟩
        refine wpR_val (v := (Value.bool r224)) (w' := w25) rfl rfl rfl (x_pickT (v := (Value.bool r224)) rfl rfl hc223 rfl) ?_
        refine wpR_nil ?_
        exact ⟨r224, ⟨rfl, e5, e8, trivial⟩, h⟩
      · replace h := h.2 hc223
        refine wpR_pass (wantN rfl rfl rfl hc223) rfl rfl ?_
        refine wpR_pass (wantN rfl rfl rfl hc223) rfl rfl ?_
        refine wpR_val (v := (Value.bool false)) (w' := w24) rfl rfl rfl (x_pickF (v := (Value.bool false)) rfl rfl hc223 rfl) ?_
        refine wpR_nil ?_
        exact ⟨false, ⟨rfl, e5, e8, trivial⟩, h⟩
    clear h
    rintro c225 ρ w26 ⟨e103, e5, e8, -⟩ h
    replace h := hk c225 w26 h
    clear hk
    refine wpR_val (v := (Value.bool c225)) (w' := w26) rfl rfl rfl (x_move (v := (Value.bool c225)) rfl e103) ?_
    obtain ⟨J226, h, hk⟩ := h
    refine wpR_joinJ 5 (fun x ρ => ρ 109 = Value.bool x ∧ ρ 5 = (Sl.v r61.1) ∧ ρ 8 = (Sl.v r88.1) ∧ True) (J226) ?_ ?_
    · clear hk
      rcases Bool.eq_false_or_eq_true (c225) with hc227 | hc227
      · replace h := h.1 hc227
        refine wpR_val (v := (Sl.v r61.1)) (w' := w26) (wantG rfl rfl rfl hc227) rfl rfl (x_move (v := (Sl.v r61.1)) rfl e5) ?_
        refine wpR_val (v := (Sl.v r61.1)) (w' := w26) (wantG rfl rfl rfl hc227) rfl rfl (x_move (v := (Sl.v r61.1)) rfl e5) ?_
        refine wpR_enter (wantG rfl rfl rfl hc227) rfl rfl (x_call (vs := [(Sl.v r61.1), (Sl.v r61.1)]) rfl rfl (mapl_cons rfl (mapl_cons rfl mapl_nil)) Try.func15 NN_15 NB_15) (Calls.mono h ?_)
        rintro _ w27 ⟨r228, rfl, h⟩
        refine ⟨_, rfl, ?_⟩
        refine wpR_val (v := (Value.bool (!r228))) (w' := w27) (wantG rfl rfl rfl hc227) rfl rfl (x_not rfl rfl) ?_
        refine wpR_val (v := (Value.bool (!r228))) (w' := w27) rfl rfl rfl (x_pickT (v := (Value.bool (!r228))) rfl rfl hc227 rfl) ?_
        refine wpR_nil ?_
        exact ⟨!r228, ⟨rfl, e5, e8, trivial⟩, h⟩
      · replace h := h.2 hc227
        refine wpR_pass (wantN rfl rfl rfl hc227) rfl rfl ?_
        refine wpR_pass (wantN rfl rfl rfl hc227) rfl rfl ?_
        refine wpR_pass (wantN rfl rfl rfl hc227) rfl rfl ?_
        refine wpR_pass (wantN rfl rfl rfl hc227) rfl rfl ?_
        refine wpR_val (v := (Value.bool false)) (w' := w26) rfl rfl rfl (x_pickF (v := (Value.bool false)) rfl rfl hc227 rfl) ?_
        refine wpR_nil ?_
        exact ⟨false, ⟨rfl, e5, e8, trivial⟩, h⟩
    clear h
    rintro c229 ρ w28 ⟨e109, e5, e8, -⟩ h
    replace h := hk c229 w28 h
    clear hk
    refine wpR_val (v := (Value.bool c229)) (w' := w28) rfl rfl rfl (x_move (v := (Value.bool c229)) rfl e109) ?_
    obtain ⟨J230, h, hk⟩ := h
    refine wpR_joinJ 4 (fun x ρ => ρ 114 = Value.bool x ∧ True) (J230) ?_ ?_
    · clear hk
      rcases Bool.eq_false_or_eq_true (c229) with hc231 | hc231
      · replace h := h.1 hc231
        refine wpR_val (v := (Sl.v r88.1)) (w' := w28) (wantG rfl rfl rfl hc231) rfl rfl (x_move (v := (Sl.v r88.1)) rfl e8) ?_
        refine wpR_val (v := (Sl.v r61.1)) (w' := w28) (wantG rfl rfl rfl hc231) rfl rfl (x_move (v := (Sl.v r61.1)) rfl e5) ?_
        refine wpR_enter (wantG rfl rfl rfl hc231) rfl rfl (x_call (vs := [(Sl.v r88.1), (Sl.v r61.1)]) rfl rfl (mapl_cons rfl (mapl_cons rfl mapl_nil)) Try.func15 NN_15 NB_15) (Calls.mono h ?_)
        rintro _ w29 ⟨r232, rfl, h⟩
        refine ⟨_, rfl, ?_⟩
        refine wpR_val (v := (Value.bool r232)) (w' := w29) rfl rfl rfl (x_pickT (v := (Value.bool r232)) rfl rfl hc231 rfl) ?_
        refine wpR_nil ?_
        exact ⟨r232, ⟨rfl, trivial⟩, h⟩
      · replace h := h.2 hc231
        refine wpR_pass (wantN rfl rfl rfl hc231) rfl rfl ?_
        refine wpR_pass (wantN rfl rfl rfl hc231) rfl rfl ?_
        refine wpR_pass (wantN rfl rfl rfl hc231) rfl rfl ?_
        refine wpR_val (v := (Value.bool false)) (w' := w28) rfl rfl rfl (x_pickF (v := (Value.bool false)) rfl rfl hc231 rfl) ?_
        refine wpR_nil ?_
        exact ⟨false, ⟨rfl, trivial⟩, h⟩
    clear h
    rintro c233 ρ w30 ⟨e114, -⟩ h
    replace h := hk c233 w30 h
    clear hk
    refine wpR_val (v := (Value.bool c233)) (w' := w30) rfl rfl rfl (x_assign (v := (Value.bool c233)) rfl e114) ?_
    refine wpR_nil ?_
    refine wpC_ret ?_
    exact ⟨.inl rfl, fun a ha => ⟨_, results_rep1 rfl ha rfl, c233, rfl, h⟩⟩

/-- linguaref13.Few -/
def F9 (p0_0 : ByteArray) (p0_1 : Int) (p0_2 : Int) (p0_3 : Int) (p0_4 : Bool) (p0_5 : Int) (p0_6 : Bool) (p0_7 : Bool) (p0_8 : Int) (p0_9 : Int) (p0_10 : Int) (p0_11 : Int) (p0_12 : Sl) (p0_13 : Int) (p0_14 : Int) (p0_15 : Int) (p0_16 : Int) (p0_17 : Bool) (p0_18 : Int) (p0_19 : Int) (p0_20 : Int) (p0_21 : Int) (w0 : World) (K : Bool → World → Prop) : Prop :=
  nw 24 (A23 p0_0 p0_1 p0_2 p0_3 p0_4 p0_5 p0_6 p0_7 p0_8 p0_9 p0_10 p0_11 p0_12 p0_13 p0_14 p0_15 p0_16 p0_17 p0_18 p0_19 p0_20 p0_21) w0 fun b9 w1 =>
  lp (fun (next10 : Int → World → Prop) l10 w2 =>
    ld Sl.v ((Addr.mk b9 0 none).add 12) w2 fun x11 =>
    cnd ((decide (l10 < (x11.len : Int))) && (decide (l10 < 13)))
      (
      ld Sl.v ((Addr.mk b9 0 none).add 12) w2 fun x15 =>
      ix x15 l10 1 fun p16 =>
      ld Value.string p16 w2 fun x17 =>
      cnd (decide (60 < (x17.size : Int)))
        (
        K false w2
        )
        (
        next10 (IntKind.i64.wrap (l10 + 1)) w2
        )
      )
      (
      ld Sl.v ((Addr.mk b9 0 none).add 12) w2 fun x19 =>
      jp (fun J20 => cnd (decide ((x19.len : Int) ≤ 12))
        (
        ld Value.string ((Addr.mk b9 0 none).add 0) w2 fun x22 =>
        J20 (decide ((x22.size : Int) ≤ 60))
        )
        (
        J20 false
        ))
      fun c23 =>
      K c23 w2
      )
  ) 0 w1
set_option maxRecDepth 100000 in
theorem D9 (p0_0 : ByteArray) (p0_1 : Int) (p0_2 : Int) (p0_3 : Int) (p0_4 : Bool) (p0_5 : Int) (p0_6 : Bool) (p0_7 : Bool) (p0_8 : Int) (p0_9 : Int) (p0_10 : Int) (p0_11 : Int) (p0_12 : Sl) (p0_13 : Int) (p0_14 : Int) (p0_15 : Int) (p0_16 : Int) (p0_17 : Bool) (p0_18 : Int) (p0_19 : Int) (p0_20 : Int) (p0_21 : Int) (w0 : World) (K : Bool → World → Prop) (h : F9 p0_0 p0_1 p0_2 p0_3 p0_4 p0_5 p0_6 p0_7 p0_8 p0_9 p0_10 p0_11 p0_12 p0_13 p0_14 p0_15 p0_16 p0_17 p0_18 p0_19 p0_20 p0_21 w0 K) : callC Try.prog 9 #[(V23 p0_0 p0_1 p0_2 p0_3 p0_4 p0_5 p0_6 p0_7 p0_8 p0_9 p0_10 p0_11 p0_12 p0_13 p0_14 p0_15 p0_16 p0_17 p0_18 p0_19 p0_20 p0_21)] (fun (r : Bool) => (Value.bool r)) w0 K := by
  unfold F9 at h
  refine calls_of_wpC Try.func9 rfl 32 rfl (by simp) ?_
  intro ρ hρ
  have e0 : ρ 0 = (V23 p0_0 p0_1 p0_2 p0_3 p0_4 p0_5 p0_6 p0_7 p0_8 p0_9 p0_10 p0_11 p0_12 p0_13 p0_14 p0_15 p0_16 p0_17 p0_18 p0_19 p0_20 p0_21) := hρ 0
  clear hρ
  refine wpC_seq ?_
  refine wpC_region ?_
  obtain ⟨b9, hb9⟩ : ∃ u, u = w0.heap.size := ⟨_, rfl⟩
  obtain ⟨w1, hw9⟩ : ∃ u, u = w0.alloc (.cells (A23 p0_0 p0_1 p0_2 p0_3 p0_4 p0_5 p0_6 p0_7 p0_8 p0_9 p0_10 p0_11 p0_12 p0_13 p0_14 p0_15 p0_16 p0_17 p0_18 p0_19 p0_20 p0_21) 24) := ⟨_, rfl⟩
  replace h := h b9 w1 hb9 hw9
  refine wpR_val (v := (Value.pointer (some (Addr.mk b9 0 none)))) (w' := w1) rfl rfl rfl ((x_box (v := (V23 p0_0 p0_1 p0_2 p0_3 p0_4 p0_5 p0_6 p0_7 p0_8 p0_9 p0_10 p0_11 p0_12 p0_13 p0_14 p0_15 p0_16 p0_17 p0_18 p0_19 p0_20 p0_21)) rfl e0).trans (by rw [hb9, hw9]; rfl)) ?_
  refine wpR_val (v := (Value.bool false)) (w' := w1) rfl rfl rfl (x_assign (v := (Value.bool false)) rfl rfl) ?_
  refine wpR_nil ?_
  refine wpC_seq ?_
  refine wpC_seq ?_
  refine wpC_cut (fun ρ => ρ 1 = (Value.pointer (some (Addr.mk b9 0 none))) ∧ True) ⟨rfl, trivial⟩ ?_
  rintro ρ ⟨e1, -⟩
  refine wpC_region ?_
  refine wpR_val (v := (Value.int .i64 0)) (w' := w1) rfl rfl rfl (x_assign (v := (Value.int .i64 0)) rfl rfl) ?_
  refine wpR_nil ?_
  refine wpC_block ?_
  obtain ⟨I10, μ10, hI10, hr10⟩ := h
  refine wpC_loop (fun (x : Int) ρ => ρ 3 = (Value.int .i64 x) ∧ ρ 1 = (Value.pointer (some (Addr.mk b9 0 none))) ∧ True) I10 μ10 0 ⟨rfl, e1, trivial⟩ hI10 ?_
  rintro l10 ρ w2 ⟨e3, e1, -⟩ h
  replace h := hr10 l10 w2 h
  clear hr10 hI10
  refine wpC_seq ?_
  refine wpC_seq ?_
  refine wpC_region ?_
  refine wpR_val (v := (Value.int .i64 l10)) (w' := w2) rfl rfl rfl (x_move (v := (Value.int .i64 l10)) rfl e3) ?_
  refine wpR_val (v := (Value.pointer (some ((Addr.mk b9 0 none).add 12)))) (w' := w2) rfl rfl rfl (x_fieldAddr rfl e1 FA_24_12) ?_
  obtain ⟨x11, q11, h⟩ := h
  refine wpR_val (v := (Sl.v x11)) (w' := w2) rfl rfl rfl (x_load1 rfl rfl SH_22 q11) ?_
  refine wpR_val (v := (Value.int .i64 (x11.len : Int))) (w' := w2) rfl rfl rfl (x_lenS (s := x11) rfl rfl isSliceT_22) ?_
  refine wpR_val (v := (Value.bool (decide (l10 < (x11.len : Int))))) (w' := w2) rfl rfl rfl (x_lss rfl rfl rfl) ?_
  refine wpR_val (v := (Value.bool (decide (l10 < (x11.len : Int))))) (w' := w2) rfl rfl rfl (x_move (v := (Value.bool (decide (l10 < (x11.len : Int))))) rfl rfl) ?_
  refine wpR_joinJ 3 (fun (_ : Unit) ρ => ρ 12 = Value.bool ((decide (l10 < (x11.len : Int))) && (decide (l10 < 13))) ∧ ρ 1 = (Value.pointer (some (Addr.mk b9 0 none))) ∧ ρ 3 = (Value.int .i64 l10) ∧ True) (fun _ w => w2 = w) ?_ ?_
  · clear h
    rcases Bool.eq_false_or_eq_true (decide (l10 < (x11.len : Int))) with hc13 | hc13
    · skip
      refine wpR_val (v := (Value.int .i64 l10)) (w' := w2) (wantG rfl rfl rfl hc13) rfl rfl (x_move (v := (Value.int .i64 l10)) rfl e3) ?_
      refine wpR_val (v := (Value.bool (decide (l10 < 13)))) (w' := w2) (wantG rfl rfl rfl hc13) rfl rfl (x_lss rfl rfl rfl) ?_
      refine wpR_val (v := (Value.bool (decide (l10 < 13)))) (w' := w2) rfl rfl rfl (x_pickT (v := (Value.bool (decide (l10 < 13)))) rfl rfl hc13 rfl) ?_
      refine wpR_nil ?_
      exact ⟨(), ⟨(by rw [hc13]; rfl), e1, e3, trivial⟩, rfl⟩
    · skip
      refine wpR_pass (wantN rfl rfl rfl hc13) rfl rfl ?_
      refine wpR_pass (wantN rfl rfl rfl hc13) rfl rfl ?_
      refine wpR_val (v := (Value.bool false)) (w' := w2) rfl rfl rfl (x_pickF (v := (Value.bool false)) rfl rfl hc13 rfl) ?_
      refine wpR_nil ?_
      exact ⟨(), ⟨(by rw [hc13]; rfl), e1, e3, trivial⟩, rfl⟩
  rintro _ ρ wj ⟨e12, e1, e3, -⟩ rfl
  refine wpR_nil ?_
  refine wpC_cond (b := (decide (l10 < (x11.len : Int))) && (decide (l10 < 13))) e12 (fun hc14 => ?_) (fun hc14 => ?_)
  · replace h := h.1 hc14
    refine wpC_skip ?_
    refine wpC_seq ?_
    refine wpC_block ?_
    refine wpC_seq ?_
    refine wpC_region ?_
    refine wpR_val (v := (Value.pointer (some ((Addr.mk b9 0 none).add 12)))) (w' := w2) rfl rfl rfl (x_fieldAddr rfl e1 FA_24_12) ?_
    obtain ⟨x15, q15, h⟩ := h
    refine wpR_val (v := (Sl.v x15)) (w' := w2) rfl rfl rfl (x_load1 rfl rfl SH_22 q15) ?_
    refine wpR_val (v := (Value.int .i64 l10)) (w' := w2) rfl rfl rfl (x_move (v := (Value.int .i64 l10)) rfl e3) ?_
    obtain ⟨q16, z16, r16, h⟩ := h
    generalize hp16 : z16.add ((l10 : Int).toNat * 1) = p16 at h
    refine wpR_val (v := (Value.pointer (some p16))) (w' := w2) rfl rfl rfl ((x_indexAddr (s := x15) rfl rfl rfl ES_22 q16 r16).trans (by rw [hp16])) ?_
    obtain ⟨x17, q17, h⟩ := h
    refine wpR_val (v := (Value.string x17)) (w' := w2) rfl rfl rfl (x_load1 rfl rfl SH_9 q17) ?_
    refine wpR_val (v := (Value.int .i64 (x17.size : Int))) (w' := w2) rfl rfl rfl (x_lenStr rfl rfl isStrT_9) ?_
    refine wpR_val (v := (Value.bool (decide (60 < (x17.size : Int))))) (w' := w2) rfl rfl rfl (x_gtr rfl rfl rfl) ?_
    refine wpR_nil ?_
    refine wpC_cond (b := decide (60 < (x17.size : Int))) rfl (fun hc18 => ?_) (fun hc18 => ?_)
    · replace h := h.1 hc18
      refine wpC_seq ?_
      refine wpC_cut (fun ρ => True) trivial ?_
      rintro ρ -
      refine wpC_region ?_
      refine wpR_val (v := (Value.bool false)) (w' := w2) rfl rfl rfl (x_assign (v := (Value.bool false)) rfl rfl) ?_
      refine wpR_nil ?_
      refine wpC_ret ?_
      exact ⟨.inl rfl, fun a ha => ⟨_, results_rep1 rfl ha rfl, false, rfl, h⟩⟩
    · replace h := h.2 hc18
      refine wpC_skip ?_
      refine wpC_cut (fun ρ => ρ 1 = (Value.pointer (some (Addr.mk b9 0 none))) ∧ ρ 3 = (Value.int .i64 l10) ∧ True) ⟨e1, e3, trivial⟩ ?_
      rintro ρ ⟨e1, e3, -⟩
      refine wpC_region ?_
      refine wpR_val (v := (Value.int .i64 l10)) (w' := w2) rfl rfl rfl (x_move (v := (Value.int .i64 l10)) rfl e3) ?_
      refine wpR_val (v := (Value.int .i64 (IntKind.i64.wrap (l10 + 1)))) (w' := w2) rfl rfl rfl (x_add rfl rfl rfl) ?_
      refine wpR_val (v := (Value.int .i64 (IntKind.i64.wrap (l10 + 1)))) (w' := w2) rfl rfl rfl (x_assign (v := (Value.int .i64 (IntKind.i64.wrap (l10 + 1)))) rfl rfl) ?_
      refine wpR_nil ?_
      exact ⟨IntKind.i64.wrap (l10 + 1), ⟨rfl, e1, trivial⟩, h⟩
  · replace h := h.2 hc14
    refine wpC_exit ?_
    refine wpC_seq ?_
    refine wpC_region ?_
    refine wpR_val (v := (Value.pointer (some ((Addr.mk b9 0 none).add 12)))) (w' := w2) rfl rfl rfl (x_fieldAddr rfl e1 FA_24_12) ?_
    obtain ⟨x19, q19, h⟩ := h
    refine wpR_val (v := (Sl.v x19)) (w' := w2) rfl rfl rfl (x_load1 rfl rfl SH_22 q19) ?_
    refine wpR_val (v := (Value.int .i64 (x19.len : Int))) (w' := w2) rfl rfl rfl (x_lenS (s := x19) rfl rfl isSliceT_22) ?_
    refine wpR_val (v := (Value.bool (decide ((x19.len : Int) ≤ 12)))) (w' := w2) rfl rfl rfl (x_leq rfl rfl rfl) ?_
    refine wpR_val (v := (Value.bool (decide ((x19.len : Int) ≤ 12)))) (w' := w2) rfl rfl rfl (x_move (v := (Value.bool (decide ((x19.len : Int) ≤ 12)))) rfl rfl) ?_
    obtain ⟨J20, h, hk⟩ := h
    refine wpR_joinJ 5 (fun x ρ => ρ 31 = Value.bool x ∧ True) (fun x w => J20 x ∧ w2 = w) ?_ ?_
    · clear hk
      rcases Bool.eq_false_or_eq_true (decide ((x19.len : Int) ≤ 12)) with hc21 | hc21
      · replace h := h.1 hc21
        refine wpR_val (v := (Value.pointer (some ((Addr.mk b9 0 none).add 0)))) (w' := w2) (wantG rfl rfl rfl hc21) rfl rfl (x_fieldAddr rfl e1 FA_24_0) ?_
        obtain ⟨x22, q22, h⟩ := h
        refine wpR_val (v := (Value.string x22)) (w' := w2) (wantG rfl rfl rfl hc21) rfl rfl (x_load1 rfl rfl SH_9 q22) ?_
        refine wpR_val (v := (Value.int .i64 (x22.size : Int))) (w' := w2) (wantG rfl rfl rfl hc21) rfl rfl (x_lenStr rfl rfl isStrT_9) ?_
        refine wpR_val (v := (Value.bool (decide ((x22.size : Int) ≤ 60)))) (w' := w2) (wantG rfl rfl rfl hc21) rfl rfl (x_leq rfl rfl rfl) ?_
        refine wpR_val (v := (Value.bool (decide ((x22.size : Int) ≤ 60)))) (w' := w2) rfl rfl rfl (x_pickT (v := (Value.bool (decide ((x22.size : Int) ≤ 60)))) rfl rfl hc21 rfl) ?_
        refine wpR_nil ?_
        exact ⟨decide ((x22.size : Int) ≤ 60), ⟨rfl, trivial⟩, h, rfl⟩
      · replace h := h.2 hc21
        refine wpR_pass (wantN rfl rfl rfl hc21) rfl rfl ?_
        refine wpR_pass (wantN rfl rfl rfl hc21) rfl rfl ?_
        refine wpR_pass (wantN rfl rfl rfl hc21) rfl rfl ?_
        refine wpR_pass (wantN rfl rfl rfl hc21) rfl rfl ?_
        refine wpR_val (v := (Value.bool false)) (w' := w2) rfl rfl rfl (x_pickF (v := (Value.bool false)) rfl rfl hc21 rfl) ?_
        refine wpR_nil ?_
        exact ⟨false, ⟨rfl, trivial⟩, h, rfl⟩
    clear h
    rintro c23 ρ wj ⟨e31, -⟩ ⟨h, rfl⟩
    replace h := hk c23 h
    clear hk
    refine wpR_val (v := (Value.bool c23)) (w' := w2) rfl rfl rfl (x_assign (v := (Value.bool c23)) rfl e31) ?_
    refine wpR_nil ?_
    refine wpC_ret ?_
    exact ⟨.inl rfl, fun a ha => ⟨_, results_rep1 rfl ha rfl, c23, rfl, h⟩⟩

/-- loss.Certify -/
def F10 (p0_0 : ByteArray) (p0_1 : Int) (p0_2 : Int) (p0_3 : Int) (p0_4 : Bool) (p0_5 : Int) (p0_6 : Bool) (p0_7 : Bool) (p0_8 : Int) (p0_9 : Int) (p0_10 : Int) (p0_11 : Int) (p0_12 : Sl) (p0_13 : Int) (p0_14 : Int) (p0_15 : Int) (p0_16 : Int) (p0_17 : Bool) (p0_18 : Int) (p0_19 : Int) (p0_20 : Int) (p0_21 : Int) (p1 : Sl) (w0 : World) (K : (Sl × Int) → World → Prop) : Prop :=
  nw 24 (A23 p0_0 p0_1 p0_2 p0_3 p0_4 p0_5 p0_6 p0_7 p0_8 p0_9 p0_10 p0_11 p0_12 p0_13 p0_14 p0_15 p0_16 p0_17 p0_18 p0_19 p0_20 p0_21) w0 fun b9 w1 =>
  L23 (Addr.mk b9 0 none) w1 fun x10 x11 x12 x13 x14 x15 x16 x17 x18 x19 x20 x21 x22 x23 x24 x25 x26 x27 x28 x29 x30 x31 =>
  callC Try.prog 17 #[(V23 x10 x11 x12 x13 x14 x15 x16 x17 x18 x19 x20 x21 x22 x23 x24 x25 x26 x27 x28 x29 x30 x31)] (fun (r : Int) => (Value.int .i64 r)) w1 fun r32 w2 =>
  cnd (!decide (r32 = 0))
    (
    K (Sl.nil, 1) w2
    )
    (
    callC Try.prog 26 #[(Sl.v p1)] (fun (r : Bool) => (Value.bool r)) w2 fun r34 w3 =>
    cnd (!r34)
      (
      K (Sl.nil, 2) w3
      )
      (
      lp (fun (next36 : (Sl × Int) → World → Prop) l36 w4 =>
        cnd (decide (l36.2 < (p1.len : Int)))
          (
          jn (fun (J38 : Sl → World → Prop) =>
            ix p1 l36.2 2 fun p40 =>
            ld (Value.int .i64) (p40.add 0) w4 fun x41 =>
            ld (Value.int .i64) (p40.add 1) w4 fun x42 =>
            nw 46 #[(Value.int .i64 0), (Value.int .i64 0)] w4 fun b43 w6 =>
            st (Addr.mk b43 0 none) [(Value.int .i64 x41), (Value.int .i64 x42)] w6 fun w7 =>
            ld (Value.int .i64) ((Addr.mk b43 0 none).add 0) w7 fun x45 =>
            cnd (!decide (x45 = 0))
              (
              ld (Value.int .i64) ((Addr.mk b43 0 none).add 0) w7 fun x47 =>
              ld (Value.int .i64) ((Addr.mk b43 0 none).add 1) w7 fun x48 =>
              nw 44 #[(Value.int .i64 l36.2), (Value.int .i64 x47), (Value.int .i64 x48)] w7 fun b49 w8 =>
              rn Try.prog (Builtin.append_ #[26, 26] 26 #[Sl.v l36.1, Sl.v (⟨some ⟨b49, 0, none⟩, 1, 1⟩ : Sl)]) Sl.v w8 fun r50 w9 =>
              J38 r50 w9
              )
              (
              J38 l36.1 w7
              )
          )
          fun l39 w5 =>
          next36 (l39, IntKind.i64.wrap (l36.2 + 1)) w5
          )
          (
          K (l36.1, 0) w4
          )
      ) (Sl.nil, 0) w3
      )
    )
set_option maxRecDepth 100000 in
theorem D10 (p0_0 : ByteArray) (p0_1 : Int) (p0_2 : Int) (p0_3 : Int) (p0_4 : Bool) (p0_5 : Int) (p0_6 : Bool) (p0_7 : Bool) (p0_8 : Int) (p0_9 : Int) (p0_10 : Int) (p0_11 : Int) (p0_12 : Sl) (p0_13 : Int) (p0_14 : Int) (p0_15 : Int) (p0_16 : Int) (p0_17 : Bool) (p0_18 : Int) (p0_19 : Int) (p0_20 : Int) (p0_21 : Int) (p1 : Sl) (w0 : World) (K : (Sl × Int) → World → Prop) (h : F10 p0_0 p0_1 p0_2 p0_3 p0_4 p0_5 p0_6 p0_7 p0_8 p0_9 p0_10 p0_11 p0_12 p0_13 p0_14 p0_15 p0_16 p0_17 p0_18 p0_19 p0_20 p0_21 p1 w0 K) : callC Try.prog 10 #[(V23 p0_0 p0_1 p0_2 p0_3 p0_4 p0_5 p0_6 p0_7 p0_8 p0_9 p0_10 p0_11 p0_12 p0_13 p0_14 p0_15 p0_16 p0_17 p0_18 p0_19 p0_20 p0_21), (Sl.v p1)] (fun (r : Sl × Int) => (Value.tuple #[(Sl.v r.1), (Value.int .i64 r.2)])) w0 K := by
  unfold F10 at h
  refine calls_of_wpC Try.func10 rfl 36 rfl (by simp) ?_
  intro ρ hρ
  have e0 : ρ 0 = (V23 p0_0 p0_1 p0_2 p0_3 p0_4 p0_5 p0_6 p0_7 p0_8 p0_9 p0_10 p0_11 p0_12 p0_13 p0_14 p0_15 p0_16 p0_17 p0_18 p0_19 p0_20 p0_21) := hρ 0
  have e1 : ρ 1 = (Sl.v p1) := hρ 1
  clear hρ
  refine wpC_seq ?_
  refine wpC_region ?_
  obtain ⟨b9, hb9⟩ : ∃ u, u = w0.heap.size := ⟨_, rfl⟩
  obtain ⟨w1, hw9⟩ : ∃ u, u = w0.alloc (.cells (A23 p0_0 p0_1 p0_2 p0_3 p0_4 p0_5 p0_6 p0_7 p0_8 p0_9 p0_10 p0_11 p0_12 p0_13 p0_14 p0_15 p0_16 p0_17 p0_18 p0_19 p0_20 p0_21) 24) := ⟨_, rfl⟩
  replace h := h b9 w1 hb9 hw9
  refine wpR_val (v := (Value.pointer (some (Addr.mk b9 0 none)))) (w' := w1) rfl rfl rfl ((x_box (v := (V23 p0_0 p0_1 p0_2 p0_3 p0_4 p0_5 p0_6 p0_7 p0_8 p0_9 p0_10 p0_11 p0_12 p0_13 p0_14 p0_15 p0_16 p0_17 p0_18 p0_19 p0_20 p0_21)) rfl e0).trans (by rw [hb9, hw9]; rfl)) ?_
  refine wpR_val (v := (Sl.v Sl.nil)) (w' := w1) rfl rfl rfl (x_assign (v := (Sl.v Sl.nil)) rfl rfl) ?_
  refine wpR_val (v := (Value.int .i64 0)) (w' := w1) rfl rfl rfl (x_assign (v := (Value.int .i64 0)) rfl rfl) ?_
  refine wpR_nil ?_
  refine wpC_seq ?_
  refine wpC_seq ?_
  refine wpC_cut (fun ρ => ρ 1 = (Sl.v p1) ∧ ρ 2 = (Value.pointer (some (Addr.mk b9 0 none))) ∧ True) ⟨e1, rfl, trivial⟩ ?_
  rintro ρ ⟨e1, e2, -⟩
  refine wpC_region ?_
  obtain ⟨x10, q10, x11, q11, x12, q12, x13, q13, x14, q14, x15, q15, x16, q16, x17, q17, x18, q18, x19, q19, x20, q20, x21, q21, x22, q22, x23, q23, x24, q24, x25, q25, x26, q26, x27, q27, x28, q28, x29, q29, x30, q30, x31, q31, h⟩ := h
  refine wpR_val (v := (V23 x10 x11 x12 x13 x14 x15 x16 x17 x18 x19 x20 x21 x22 x23 x24 x25 x26 x27 x28 x29 x30 x31)) (w' := w1) rfl rfl rfl (x_loadN (S23 x10 x11 x12 x13 x14 x15 x16 x17 x18 x19 x20 x21 x22 x23 x24 x25 x26 x27 x28 x29 x30 x31) rfl e2 SH_24 (K23 ⟨q10, q11, q12, q13, q14, q15, q16, q17, q18, q19, q20, q21, q22, q23, q24, q25, q26, q27, q28, q29, q30, q31⟩)) ?_
  refine wpR_enter rfl rfl rfl (x_call (vs := [(V23 x10 x11 x12 x13 x14 x15 x16 x17 x18 x19 x20 x21 x22 x23 x24 x25 x26 x27 x28 x29 x30 x31)]) rfl rfl (mapl_cons rfl mapl_nil) Try.func17 NN_17 NB_17) (Calls.mono h ?_)
  rintro _ w2 ⟨r32, rfl, h⟩
  refine ⟨_, rfl, ?_⟩
  refine wpR_val (v := (Value.bool (!decide (r32 = 0)))) (w' := w2) rfl rfl rfl (x_neq rfl rfl rfl) ?_
  refine wpR_nil ?_
  refine wpC_cond (b := !decide (r32 = 0)) rfl (fun hc33 => ?_) (fun hc33 => ?_)
  · replace h := h.1 hc33
    refine wpC_seq ?_
    refine wpC_cut (fun ρ => True) trivial ?_
    rintro ρ -
    refine wpC_region ?_
    refine wpR_val (v := (Sl.v Sl.nil)) (w' := w2) rfl rfl rfl (x_assign (v := (Sl.v Sl.nil)) rfl rfl) ?_
    refine wpR_val (v := (Value.int .i64 1)) (w' := w2) rfl rfl rfl (x_assign (v := (Value.int .i64 1)) rfl rfl) ?_
    refine wpR_nil ?_
    refine wpC_ret ?_
    exact ⟨.inl rfl, fun a ha => ⟨_, results_rep2 rfl ha rfl rfl, (Sl.nil, 1), rfl, h⟩⟩
  · replace h := h.2 hc33
    refine wpC_skip ?_
    refine wpC_seq ?_
    refine wpC_seq ?_
    refine wpC_cut (fun ρ => ρ 1 = (Sl.v p1) ∧ True) ⟨e1, trivial⟩ ?_
    rintro ρ ⟨e1, -⟩
    refine wpC_region ?_
    refine wpR_val (v := (Sl.v p1)) (w' := w2) rfl rfl rfl (x_move (v := (Sl.v p1)) rfl e1) ?_
    refine wpR_enter rfl rfl rfl (x_call (vs := [(Sl.v p1)]) rfl rfl (mapl_cons rfl mapl_nil) Try.func26 NN_26 NB_26) (Calls.mono h ?_)
    rintro _ w3 ⟨r34, rfl, h⟩
    refine ⟨_, rfl, ?_⟩
    refine wpR_val (v := (Value.bool (!r34))) (w' := w3) rfl rfl rfl (x_not rfl rfl) ?_
    refine wpR_nil ?_
    refine wpC_cond (b := !r34) rfl (fun hc35 => ?_) (fun hc35 => ?_)
    · replace h := h.1 hc35
      refine wpC_seq ?_
      refine wpC_cut (fun ρ => True) trivial ?_
      rintro ρ -
      refine wpC_region ?_
      refine wpR_val (v := (Sl.v Sl.nil)) (w' := w3) rfl rfl rfl (x_assign (v := (Sl.v Sl.nil)) rfl rfl) ?_
      refine wpR_val (v := (Value.int .i64 2)) (w' := w3) rfl rfl rfl (x_assign (v := (Value.int .i64 2)) rfl rfl) ?_
      refine wpR_nil ?_
      refine wpC_ret ?_
      exact ⟨.inl rfl, fun a ha => ⟨_, results_rep2 rfl ha rfl rfl, (Sl.nil, 2), rfl, h⟩⟩
    · replace h := h.2 hc35
      refine wpC_skip ?_
      refine wpC_seq ?_
      refine wpC_cut (fun ρ => ρ 1 = (Sl.v p1) ∧ True) ⟨e1, trivial⟩ ?_
      rintro ρ ⟨e1, -⟩
      refine wpC_region ?_
      refine wpR_val (v := (Sl.v Sl.nil)) (w' := w3) rfl rfl rfl (x_assign (v := (Sl.v Sl.nil)) rfl rfl) ?_
      refine wpR_nil ?_
      refine wpC_seq ?_
      refine wpC_seq ?_
      refine wpC_cut (fun ρ => ρ 1 = (Sl.v p1) ∧ ρ 6 = (Sl.v Sl.nil) ∧ True) ⟨e1, rfl, trivial⟩ ?_
      rintro ρ ⟨e1, e6, -⟩
      refine wpC_region ?_
      refine wpR_val (v := (Sl.v p1)) (w' := w3) rfl rfl rfl (x_move (v := (Sl.v p1)) rfl e1) ?_
      refine wpR_val (v := (Value.int .i64 (p1.len : Int))) (w' := w3) rfl rfl rfl (x_lenS (s := p1) rfl rfl isSliceT_25) ?_
      refine wpR_val (v := (Value.int .i64 0)) (w' := w3) rfl rfl rfl (x_move (v := (Value.int .i64 0)) rfl rfl) ?_
      refine wpR_nil ?_
      refine wpC_block ?_
      obtain ⟨I36, μ36, hI36, hr36⟩ := h
      refine wpC_loop (fun (x : Sl × Int) ρ => ρ 6 = (Sl.v x.1) ∧ ρ 17 = (Value.int .i64 x.2) ∧ ρ 15 = (Sl.v p1) ∧ ρ 16 = (Value.int .i64 (p1.len : Int)) ∧ True) I36 μ36 (Sl.nil, 0) ⟨e6, rfl, rfl, rfl, trivial⟩ hI36 ?_
      rintro l36 ρ w4 ⟨e6, e17, e15, e16, -⟩ h
      replace h := hr36 l36 w4 h
      clear hr36 hI36
      refine wpC_seq ?_
      refine wpC_region ?_
      refine wpR_val (v := (Value.bool (decide (l36.2 < (p1.len : Int))))) (w' := w4) rfl rfl rfl (x_lss rfl e17 e16) ?_
      refine wpR_nil ?_
      refine wpC_seq ?_
      refine wpC_cond (b := decide (l36.2 < (p1.len : Int))) rfl (fun hc37 => ?_) (fun hc37 => ?_)
      · replace h := h.1 hc37
        refine wpC_skip ?_
        obtain ⟨J38, h, hk⟩ := h
        refine wpC_seqJ (fun (x : Sl) ρ => ρ 6 = (Sl.v x) ∧ ρ 15 = (Sl.v p1) ∧ ρ 16 = (Value.int .i64 (p1.len : Int)) ∧ ρ 17 = (Value.int .i64 l36.2) ∧ True) J38 ?_ ?_
        · clear hk
          refine wpC_block ?_
          refine wpC_seq ?_
          refine wpC_cut (fun ρ => ρ 6 = (Sl.v l36.1) ∧ ρ 15 = (Sl.v p1) ∧ ρ 16 = (Value.int .i64 (p1.len : Int)) ∧ ρ 17 = (Value.int .i64 l36.2) ∧ True) ⟨e6, e15, e16, e17, trivial⟩ ?_
          rintro ρ ⟨e6, e15, e16, e17, -⟩
          refine wpC_region ?_
          refine wpR_val (v := (Value.int .i64 l36.2)) (w' := w4) rfl rfl rfl (x_move (v := (Value.int .i64 l36.2)) rfl e17) ?_
          obtain ⟨q40, z40, r40, h⟩ := h
          generalize hp40 : z40.add ((l36.2 : Int).toNat * 2) = p40 at h
          refine wpR_val (v := (Value.pointer (some p40))) (w' := w4) rfl rfl rfl ((x_indexAddr (s := p1) rfl e15 e17 ES_25 q40 r40).trans (by rw [hp40])) ?_
          obtain ⟨x41, q41, x42, q42, h⟩ := h
          refine wpR_val (v := (Value.agg #[(Value.int .i64 x41), (Value.int .i64 x42)])) (w' := w4) rfl rfl rfl (x_loadN [(Value.int .i64 x41), (Value.int .i64 x42)] rfl rfl SH_46 (CellsAt.out (CellsAt.cons q41 (CellsAt.cons q42 CellsAt.nil)))) ?_
          obtain ⟨b43, hb43⟩ : ∃ u, u = w4.heap.size := ⟨_, rfl⟩
          obtain ⟨w6, hw43⟩ : ∃ u, u = w4.alloc (.cells #[(Value.int .i64 0), (Value.int .i64 0)] 46) := ⟨_, rfl⟩
          replace h := h b43 w6 hb43 hw43
          refine wpR_val (v := (Value.pointer (some (Addr.mk b43 0 none)))) (w' := w6) rfl rfl rfl ((x_alloc rfl ZV_46).trans (by rw [hb43, hw43]; rfl)) ?_
          refine wpR_val (v := (Value.int .i64 l36.2)) (w' := w6) rfl rfl rfl (x_assign (v := (Value.int .i64 l36.2)) rfl rfl) ?_
          obtain ⟨q44, h⟩ := h
          obtain ⟨w7, hw44⟩ : ∃ u, u = setAll w6 (Addr.mk b43 0 none) [(Value.int .i64 x41), (Value.int .i64 x42)] 0 := ⟨_, rfl⟩
          replace h := h w7 hw44
          refine wpR_skp (w' := w7) rfl rfl ((x_store (v := (Value.agg #[(Value.int .i64 x41), (Value.int .i64 x42)])) rfl rfl rfl SZ_46 (ones (by rfl)) q44).trans (by rw [hw44]; rfl)) ?_
          refine wpR_nil ?_
          refine wpC_seq ?_
          refine wpC_cut (fun ρ => ρ 6 = (Sl.v l36.1) ∧ ρ 7 = (Value.int .i64 l36.2) ∧ ρ 8 = (Value.pointer (some (Addr.mk b43 0 none))) ∧ ρ 15 = (Sl.v p1) ∧ ρ 16 = (Value.int .i64 (p1.len : Int)) ∧ ρ 17 = (Value.int .i64 l36.2) ∧ True) ⟨e6, rfl, rfl, e15, e16, e17, trivial⟩ ?_
          rintro ρ ⟨e6, e7, e8, e15, e16, e17, -⟩
          refine wpC_region ?_
          refine wpR_val (v := (Value.pointer (some ((Addr.mk b43 0 none).add 0)))) (w' := w7) rfl rfl rfl (x_fieldAddr rfl e8 FA_46_0) ?_
          obtain ⟨x45, q45, h⟩ := h
          refine wpR_val (v := (Value.int .i64 x45)) (w' := w7) rfl rfl rfl (x_load1 rfl rfl SH_3 q45) ?_
          refine wpR_val (v := (Value.bool (!decide (x45 = 0)))) (w' := w7) rfl rfl rfl (x_neq rfl rfl rfl) ?_
          refine wpR_nil ?_
          refine wpC_cond (b := !decide (x45 = 0)) rfl (fun hc46 => ?_) (fun hc46 => ?_)
          · replace h := h.1 hc46
            refine wpC_cut (fun ρ => ρ 6 = (Sl.v l36.1) ∧ ρ 7 = (Value.int .i64 l36.2) ∧ ρ 8 = (Value.pointer (some (Addr.mk b43 0 none))) ∧ ρ 15 = (Sl.v p1) ∧ ρ 16 = (Value.int .i64 (p1.len : Int)) ∧ ρ 17 = (Value.int .i64 l36.2) ∧ True) ⟨e6, e7, e8, e15, e16, e17, trivial⟩ ?_
            rintro ρ ⟨e6, e7, e8, e15, e16, e17, -⟩
            refine wpC_region ?_
            refine wpR_val (v := (Sl.v l36.1)) (w' := w7) rfl rfl rfl (x_move (v := (Sl.v l36.1)) rfl e6) ?_
            refine wpR_val (v := (Value.int .i64 l36.2)) (w' := w7) rfl rfl rfl (x_move (v := (Value.int .i64 l36.2)) rfl e7) ?_
            refine wpR_val (v := (Value.pointer (some ((Addr.mk b43 0 none).add 0)))) (w' := w7) rfl rfl rfl (x_fieldAddr rfl e8 FA_46_0) ?_
            obtain ⟨x47, q47, h⟩ := h
            refine wpR_val (v := (Value.int .i64 x47)) (w' := w7) rfl rfl rfl (x_load1 rfl rfl SH_3 q47) ?_
            refine wpR_val (v := (Value.pointer (some ((Addr.mk b43 0 none).add 1)))) (w' := w7) rfl rfl rfl (x_fieldAddr rfl e8 FA_46_1) ?_
            obtain ⟨x48, q48, h⟩ := h
            refine wpR_val (v := (Value.int .i64 x48)) (w' := w7) rfl rfl rfl (x_load1 rfl rfl SH_3 q48) ?_
            refine wpR_val (v := (Value.agg #[(Value.int .i64 l36.2), (Value.int .i64 x47), (Value.int .i64 x48)])) (w' := w7) rfl rfl rfl (x_build (qs := [(0, (Value.int .i64 l36.2)), (1, (Value.int .i64 x47)), (2, (Value.int .i64 x48))]) rfl (by rfl) (BD_44_0_1_2 l36.2 x47 x48 _)) ?_
            obtain ⟨b49, hb49⟩ : ∃ u, u = w7.heap.size := ⟨_, rfl⟩
            obtain ⟨w8, hw49⟩ : ∃ u, u = w7.alloc (.cells #[(Value.int .i64 l36.2), (Value.int .i64 x47), (Value.int .i64 x48)] 44) := ⟨_, rfl⟩
            replace h := h b49 w8 hb49 hw49
            refine wpR_val (v := (Sl.v (⟨some ⟨b49, 0, none⟩, 1, 1⟩ : Sl))) (w' := w8) rfl rfl rfl ((x_buildSlice (qs := [(0, (Value.agg #[(Value.int .i64 l36.2), (Value.int .i64 x47), (Value.int .i64 x48)]))]) rfl (by rfl) (BS_26_1_0 l36.2 x47 x48)).trans (by rw [← hb49, ← hw49])) ?_
            obtain ⟨r50, w9, q50, h⟩ := h
            refine wpR_val (v := (Sl.v r50)) (w' := w9) rfl rfl rfl (x_append (s := l36.1) (u := (⟨some ⟨b49, 0, none⟩, 1, 1⟩ : Sl)) rfl rfl rfl rfl q50) ?_
            refine wpR_val (v := (Sl.v r50)) (w' := w9) rfl rfl rfl (x_assign (v := (Sl.v r50)) rfl rfl) ?_
            refine wpR_nil ?_
            exact ⟨r50, ⟨rfl, e15, e16, e17, trivial⟩, h⟩
          · replace h := h.2 hc46
            refine wpC_skip ?_
            exact ⟨l36.1, ⟨e6, e15, e16, e17, trivial⟩, h⟩
        clear h
        rintro l39 ρ w5 ⟨e6, e15, e16, e17, -⟩ h
        replace h := hk l39 w5 h
        clear hk
        refine wpC_region ?_
        refine wpR_val (v := (Value.int .i64 (IntKind.i64.wrap (l36.2 + 1)))) (w' := w5) rfl rfl rfl (x_add rfl e17 rfl) ?_
        refine wpR_val (v := (Value.int .i64 (IntKind.i64.wrap (l36.2 + 1)))) (w' := w5) rfl rfl rfl (x_move (v := (Value.int .i64 (IntKind.i64.wrap (l36.2 + 1)))) rfl rfl) ?_
        refine wpR_nil ?_
        exact ⟨(l39, IntKind.i64.wrap (l36.2 + 1)), ⟨e6, rfl, e15, e16, trivial⟩, h⟩
      · replace h := h.2 hc37
        refine wpC_exit ?_
        refine wpC_seq ?_
        refine wpC_cut (fun ρ => ρ 6 = (Sl.v l36.1) ∧ True) ⟨e6, trivial⟩ ?_
        rintro ρ ⟨e6, -⟩
        refine wpC_region ?_
        refine wpR_val (v := (Sl.v l36.1)) (w' := w4) rfl rfl rfl (x_move (v := (Sl.v l36.1)) rfl e6) ?_
        refine wpR_val (v := (Sl.v l36.1)) (w' := w4) rfl rfl rfl (x_assign (v := (Sl.v l36.1)) rfl rfl) ?_
        refine wpR_val (v := (Value.int .i64 0)) (w' := w4) rfl rfl rfl (x_assign (v := (Value.int .i64 0)) rfl rfl) ?_
        refine wpR_nil ?_
        refine wpC_ret ?_
        exact ⟨.inl rfl, fun a ha => ⟨_, results_rep2 rfl ha rfl rfl, (l36.1, 0), rfl, h⟩⟩

/-- linguaref20.Same -/
def F12 (p0 : Sl) (p1 : Sl) (w0 : World) (K : Bool → World → Prop) : Prop :=
  cnd (!decide ((p0.len : Int) = (p1.len : Int)))
    (
    K false w0
    )
    (
    lp (fun (next10 : Int → World → Prop) l10 w1 =>
      cnd (decide (l10 < (p0.len : Int)))
        (
        jn (fun (J13 : Bool → World → Prop) => tk w1 fun w2 =>
          ix p0 l10 3 fun p14 =>
          ld (Value.int .i64) (p14.add 0) w2 fun x15 =>
          ld (Value.int .i64) (p14.add 1) w2 fun x16 =>
          ld (Value.int .i64) (p14.add 2) w2 fun x17 =>
          ix p1 l10 3 fun p18 =>
          ld (Value.int .i64) (p18.add 0) w2 fun x19 =>
          ld (Value.int .i64) (p18.add 1) w2 fun x20 =>
          ld (Value.int .i64) (p18.add 2) w2 fun x21 =>
          J13 (!(decide (x15 = x19) && (decide (x16 = x20) && (decide (x17 = x21) && true)))) w2
        )
        fun l22 w3 =>
        cnd (l22)
          (
          K false w3
          )
          (
          next10 (IntKind.i64.wrap (l10 + 1)) w3
          )
        )
        (
        K true w1
        )
    ) 0 w0
    )
set_option maxRecDepth 100000 in
theorem D12 (p0 : Sl) (p1 : Sl) (w0 : World) (K : Bool → World → Prop) (h : F12 p0 p1 w0 K) : callC Try.prog 12 #[(Sl.v p0), (Sl.v p1)] (fun (r : Bool) => (Value.bool r)) w0 K := by
  unfold F12 at h
  refine calls_of_wpC Try.func12 rfl 26 rfl (by simp) ?_
  intro ρ hρ
  have e0 : ρ 0 = (Sl.v p0) := hρ 0
  have e1 : ρ 1 = (Sl.v p1) := hρ 1
  clear hρ
  refine wpC_seq ?_
  refine wpC_region ?_
  refine wpR_val (v := (Value.bool false)) (w' := w0) rfl rfl rfl (x_assign (v := (Value.bool false)) rfl rfl) ?_
  refine wpR_nil ?_
  refine wpC_seq ?_
  refine wpC_seq ?_
  refine wpC_cut (fun ρ => ρ 0 = (Sl.v p0) ∧ ρ 1 = (Sl.v p1) ∧ True) ⟨e0, e1, trivial⟩ ?_
  rintro ρ ⟨e0, e1, -⟩
  refine wpC_region ?_
  refine wpR_val (v := (Sl.v p0)) (w' := w0) rfl rfl rfl (x_move (v := (Sl.v p0)) rfl e0) ?_
  refine wpR_val (v := (Value.int .i64 (p0.len : Int))) (w' := w0) rfl rfl rfl (x_lenS (s := p0) rfl rfl isSliceT_26) ?_
  refine wpR_val (v := (Sl.v p1)) (w' := w0) rfl rfl rfl (x_move (v := (Sl.v p1)) rfl e1) ?_
  refine wpR_val (v := (Value.int .i64 (p1.len : Int))) (w' := w0) rfl rfl rfl (x_lenS (s := p1) rfl rfl isSliceT_26) ?_
  refine wpR_val (v := (Value.bool (!decide ((p0.len : Int) = (p1.len : Int))))) (w' := w0) rfl rfl rfl (x_neq rfl rfl rfl) ?_
  refine wpR_nil ?_
  refine wpC_cond (b := !decide ((p0.len : Int) = (p1.len : Int))) rfl (fun hc9 => ?_) (fun hc9 => ?_)
  · replace h := h.1 hc9
    refine wpC_seq ?_
    refine wpC_cut (fun ρ => True) trivial ?_
    rintro ρ -
    refine wpC_region ?_
    refine wpR_val (v := (Value.bool false)) (w' := w0) rfl rfl rfl (x_assign (v := (Value.bool false)) rfl rfl) ?_
    refine wpR_nil ?_
    refine wpC_ret ?_
    exact ⟨.inl rfl, fun a ha => ⟨_, results_rep1 rfl ha rfl, false, rfl, h⟩⟩
  · replace h := h.2 hc9
    refine wpC_skip ?_
    refine wpC_seq ?_
    refine wpC_seq ?_
    refine wpC_cut (fun ρ => ρ 0 = (Sl.v p0) ∧ ρ 1 = (Sl.v p1) ∧ True) ⟨e0, e1, trivial⟩ ?_
    rintro ρ ⟨e0, e1, -⟩
    refine wpC_region ?_
    refine wpR_val (v := (Value.int .i64 0)) (w' := w0) rfl rfl rfl (x_assign (v := (Value.int .i64 0)) rfl rfl) ?_
    refine wpR_nil ?_
    refine wpC_block ?_
    obtain ⟨I10, μ10, hI10, hr10⟩ := h
    refine wpC_loop (fun (x : Int) ρ => ρ 5 = (Value.int .i64 x) ∧ ρ 0 = (Sl.v p0) ∧ ρ 1 = (Sl.v p1) ∧ True) I10 μ10 0 ⟨rfl, e0, e1, trivial⟩ hI10 ?_
    rintro l10 ρ w1 ⟨e5, e0, e1, -⟩ h
    replace h := hr10 l10 w1 h
    clear hr10 hI10
    refine wpC_seq ?_
    refine wpC_seq ?_
    refine wpC_region ?_
    refine wpR_val (v := (Value.int .i64 l10)) (w' := w1) rfl rfl rfl (x_move (v := (Value.int .i64 l10)) rfl e5) ?_
    refine wpR_val (v := (Sl.v p0)) (w' := w1) rfl rfl rfl (x_move (v := (Sl.v p0)) rfl e0) ?_
    refine wpR_val (v := (Value.int .i64 (p0.len : Int))) (w' := w1) rfl rfl rfl (x_lenS (s := p0) rfl rfl isSliceT_26) ?_
    refine wpR_val (v := (Value.bool (decide (l10 < (p0.len : Int))))) (w' := w1) rfl rfl rfl (x_lss rfl rfl rfl) ?_
    refine wpR_nil ?_
    refine wpC_cond (b := decide (l10 < (p0.len : Int))) rfl (fun hc11 => ?_) (fun hc11 => ?_)
    · replace h := h.1 hc11
      refine wpC_skip ?_
      refine wpC_seq ?_
      refine wpC_block ?_
      refine wpC_seq ?_
      refine wpC_cut (fun ρ => ρ 0 = (Sl.v p0) ∧ ρ 1 = (Sl.v p1) ∧ ρ 5 = (Value.int .i64 l10) ∧ True) ⟨e0, e1, e5, trivial⟩ ?_
      rintro ρ ⟨e0, e1, e5, -⟩
      obtain ⟨J13, h, hk⟩ := h
      refine wpC_drawJ (by kernel_rfl) (fun (x : Bool) ρ => ρ 25 = (Value.bool x) ∧ ρ 0 = (Sl.v p0) ∧ ρ 1 = (Sl.v p1) ∧ ρ 5 = (Value.int .i64 l10) ∧ True) J13 ?_ ?_
      · clear hk
        unfold tk at h
        generalize w1.drew = w2 at h ⊢
        refine wpD_take (v := (Sl.v p0)) 0 (fun _ => True) rfl (by kernel_rfl) (by kernel_rfl) (by kernel_rfl) rfl rfl rfl trivial (fun w _ => (x_move (v := (Sl.v p0)) rfl e0)) ?_
        refine wpD_take (v := (Value.int .i64 l10)) 1 (fun _ => True) rfl (by kernel_rfl) (by kernel_rfl) (by kernel_rfl) rfl rfl rfl trivial (fun w _ => (x_move (v := (Value.int .i64 l10)) rfl e5)) ?_
        obtain ⟨q14, z14, r14, h⟩ := h
        generalize hp14 : z14.add ((l10 : Int).toNat * 3) = p14 at h
        refine wpD_take (v := (Value.pointer (some p14))) 2 (fun _ => True) rfl (by kernel_rfl) (by kernel_rfl) (by kernel_rfl) rfl rfl rfl trivial (fun w _ => ((x_indexAddr (s := p0) rfl rfl rfl ES_26 q14 r14).trans (by rw [hp14]))) ?_
        obtain ⟨x15, q15, x16, q16, x17, q17, h⟩ := h
        refine wpD_take (v := (Value.agg #[(Value.int .i64 x15), (Value.int .i64 x16), (Value.int .i64 x17)])) 3 (fun w => w.cell? (p14.add 0) = some (Value.int .i64 x15) ∧ w.cell? (p14.add 1) = some (Value.int .i64 x16) ∧ w.cell? (p14.add 2) = some (Value.int .i64 x17)) rfl (by kernel_rfl) (by kernel_rfl) (by kernel_rfl) rfl rfl rfl ⟨q15, q16, q17⟩ (fun w ⟨q15, q16, q17⟩ => (x_loadN [(Value.int .i64 x15), (Value.int .i64 x16), (Value.int .i64 x17)] rfl rfl SH_44 (CellsAt.out (CellsAt.cons q15 (CellsAt.cons q16 (CellsAt.cons q17 CellsAt.nil)))))) ?_
        refine wpD_take (v := (Sl.v p1)) 4 (fun _ => True) rfl (by kernel_rfl) (by kernel_rfl) (by kernel_rfl) rfl rfl rfl trivial (fun w _ => (x_move (v := (Sl.v p1)) rfl e1)) ?_
        refine wpD_take (v := (Value.int .i64 l10)) 5 (fun _ => True) rfl (by kernel_rfl) (by kernel_rfl) (by kernel_rfl) rfl rfl rfl trivial (fun w _ => (x_move (v := (Value.int .i64 l10)) rfl e5)) ?_
        obtain ⟨q18, z18, r18, h⟩ := h
        generalize hp18 : z18.add ((l10 : Int).toNat * 3) = p18 at h
        refine wpD_take (v := (Value.pointer (some p18))) 6 (fun _ => True) rfl (by kernel_rfl) (by kernel_rfl) (by kernel_rfl) rfl rfl rfl trivial (fun w _ => ((x_indexAddr (s := p1) rfl rfl rfl ES_26 q18 r18).trans (by rw [hp18]))) ?_
        obtain ⟨x19, q19, x20, q20, x21, q21, h⟩ := h
        refine wpD_take (v := (Value.agg #[(Value.int .i64 x19), (Value.int .i64 x20), (Value.int .i64 x21)])) 7 (fun w => w.cell? (p18.add 0) = some (Value.int .i64 x19) ∧ w.cell? (p18.add 1) = some (Value.int .i64 x20) ∧ w.cell? (p18.add 2) = some (Value.int .i64 x21)) rfl (by kernel_rfl) (by kernel_rfl) (by kernel_rfl) rfl rfl rfl ⟨q19, q20, q21⟩ (fun w ⟨q19, q20, q21⟩ => (x_loadN [(Value.int .i64 x19), (Value.int .i64 x20), (Value.int .i64 x21)] rfl rfl SH_44 (CellsAt.out (CellsAt.cons q19 (CellsAt.cons q20 (CellsAt.cons q21 CellsAt.nil)))))) ?_
        refine wpD_take (v := (Value.bool (!(decide (x15 = x19) && (decide (x16 = x20) && (decide (x17 = x21) && true)))))) 8 (fun _ => True) rfl (by kernel_rfl) (by kernel_rfl) (by kernel_rfl) rfl rfl rfl trivial (fun w _ => (x_neqA rfl rfl rfl EQ1_44 EQ2_44 EQ3_44 (EQ_44 x15 x16 x17 x19 x20 x21))) ?_
        exact wpD_done (by kernel_rfl) ⟨!(decide (x15 = x19) && (decide (x16 = x20) && (decide (x17 = x21) && true))), ⟨rfl, e0, e1, e5, trivial⟩, h⟩
      clear h
      rintro l22 ρ w3 ⟨e25, e0, e1, e5, -⟩ h
      replace h := hk l22 w3 h
      clear hk
      refine wpC_cond (b := l22) e25 (fun hc23 => ?_) (fun hc23 => ?_)
      · replace h := h.1 hc23
        refine wpC_seq ?_
        refine wpC_region ?_
        refine wpR_val (v := (Value.bool false)) (w' := w3) rfl rfl rfl (x_assign (v := (Value.bool false)) rfl rfl) ?_
        refine wpR_nil ?_
        refine wpC_ret ?_
        exact ⟨.inl rfl, fun a ha => ⟨_, results_rep1 rfl ha rfl, false, rfl, h⟩⟩
      · replace h := h.2 hc23
        refine wpC_skip ?_
        refine wpC_region ?_
        refine wpR_val (v := (Value.int .i64 l10)) (w' := w3) rfl rfl rfl (x_move (v := (Value.int .i64 l10)) rfl e5) ?_
        refine wpR_val (v := (Value.int .i64 (IntKind.i64.wrap (l10 + 1)))) (w' := w3) rfl rfl rfl (x_add rfl rfl rfl) ?_
        refine wpR_val (v := (Value.int .i64 (IntKind.i64.wrap (l10 + 1)))) (w' := w3) rfl rfl rfl (x_assign (v := (Value.int .i64 (IntKind.i64.wrap (l10 + 1)))) rfl rfl) ?_
        refine wpR_nil ?_
        exact ⟨IntKind.i64.wrap (l10 + 1), ⟨rfl, e0, e1, trivial⟩, h⟩
    · replace h := h.2 hc11
      refine wpC_exit ?_
      refine wpC_seq ?_
      refine wpC_cut (fun ρ => True) trivial ?_
      rintro ρ -
      refine wpC_region ?_
      refine wpR_val (v := (Value.bool true)) (w' := w1) rfl rfl rfl (x_assign (v := (Value.bool true)) rfl rfl) ?_
      refine wpR_nil ?_
      refine wpC_ret ?_
      exact ⟨.inl rfl, fun a ha => ⟨_, results_rep1 rfl ha rfl, true, rfl, h⟩⟩

/-- loss.Check -/
def F13 (p0_0 : ByteArray) (p0_1 : Int) (p0_2 : Int) (p0_3 : Int) (p0_4 : Bool) (p0_5 : Int) (p0_6 : Bool) (p0_7 : Bool) (p0_8 : Int) (p0_9 : Int) (p0_10 : Int) (p0_11 : Int) (p0_12 : Sl) (p0_13 : Int) (p0_14 : Int) (p0_15 : Int) (p0_16 : Int) (p0_17 : Bool) (p0_18 : Int) (p0_19 : Int) (p0_20 : Int) (p0_21 : Int) (p1 : Sl) (p2 : Sl) (w0 : World) (K : Int → World → Prop) : Prop :=
  nw 24 (A23 p0_0 p0_1 p0_2 p0_3 p0_4 p0_5 p0_6 p0_7 p0_8 p0_9 p0_10 p0_11 p0_12 p0_13 p0_14 p0_15 p0_16 p0_17 p0_18 p0_19 p0_20 p0_21) w0 fun b9 w1 =>
  L23 (Addr.mk b9 0 none) w1 fun x10 x11 x12 x13 x14 x15 x16 x17 x18 x19 x20 x21 x22 x23 x24 x25 x26 x27 x28 x29 x30 x31 =>
  callC Try.prog 10 #[(V23 x10 x11 x12 x13 x14 x15 x16 x17 x18 x19 x20 x21 x22 x23 x24 x25 x26 x27 x28 x29 x30 x31), (Sl.v p1)] (fun (r : Sl × Int) => (Value.tuple #[(Sl.v r.1), (Value.int .i64 r.2)])) w1 fun r32 w2 =>
  cnd (!decide (r32.2 = 0))
    (
    K r32.2 w2
    )
    (
    lp (fun (next34 : (Bool × Int) → World → Prop) l34 w3 =>
      cnd (decide (l34.2 < (p1.len : Int)))
        (
        ix p1 l34.2 2 fun p36 =>
        ld (Value.int .i64) (p36.add 0) w3 fun x37 =>
        ld (Value.int .i64) (p36.add 1) w3 fun x38 =>
        nw 46 #[(Value.int .i64 0), (Value.int .i64 0)] w3 fun b39 w4 =>
        st (Addr.mk b39 0 none) [(Value.int .i64 x37), (Value.int .i64 x38)] w4 fun w5 =>
        L23 (Addr.mk b9 0 none) w5 fun x41 x42 x43 x44 x45 x46 x47 x48 x49 x50 x51 x52 x53 x54 x55 x56 x57 x58 x59 x60 x61 x62 =>
        callC Try.prog 29 #[(V23 x41 x42 x43 x44 x45 x46 x47 x48 x49 x50 x51 x52 x53 x54 x55 x56 x57 x58 x59 x60 x61 x62), (Value.int .i64 l34.2)] (fun (r : Sl) => (Sl.v r)) w5 fun r63 w6 =>
        ld (Value.int .i64) ((Addr.mk b39 0 none).add 0) w6 fun x64 =>
        ld (Value.int .i64) ((Addr.mk b39 0 none).add 1) w6 fun x65 =>
        callC Try.prog 30 #[(Sl.v r63), (Value.agg #[(Value.int .i64 x64), (Value.int .i64 x65), (Value.bool true)])] (fun (r : Bool) => (Value.bool r)) w6 fun r66 w7 =>
        cnd (!r66)
          (
          K 7 w7
          )
          (
          callC Try.prog 31 #[(Sl.v r63), (Value.func (.func 32) #[] #[])] (fun (r : Int) => (Value.int .i64 r)) w7 fun r68 w8 =>
          jn (fun (J70 : Bool → World → Prop) => tk w8 fun w9 =>
            cnd (l34.1)
              (
              ix r63 r68 3 fun p72 =>
              ld (Value.int .i64) ((p72.add 0).add 0) w9 fun x73 =>
              ld (Value.int .i64) ((p72.add 0).add 1) w9 fun x74 =>
              ld (Value.int .i64) ((Addr.mk b39 0 none).add 0) w9 fun x75 =>
              ld (Value.int .i64) ((Addr.mk b39 0 none).add 1) w9 fun x76 =>
              J70 (decide (x73 = x75) && (decide (x74 = x76) && true)) w9
              )
              (
              J70 false w9
              )
          )
          fun l77 w10 =>
          next34 (l77, IntKind.i64.wrap (l34.2 + 1)) w10
          )
        )
        (
        jn (fun J78 => cnd (!l34.1)
          (
          J78 true w3
          )
          (
          callC Try.prog 33 #[(Sl.v r32.1), (Sl.v p2)] (fun (r : Bool) => (Value.bool r)) w3 fun r80 w11 =>
          J78 (!r80) w11
          ))
        fun c81 w12 =>
        cnd (c81)
          (
          K 18 w12
          )
          (
          K 0 w12
          )
        )
    ) (true, 0) w2
    )
set_option maxRecDepth 100000 in
theorem D13 (p0_0 : ByteArray) (p0_1 : Int) (p0_2 : Int) (p0_3 : Int) (p0_4 : Bool) (p0_5 : Int) (p0_6 : Bool) (p0_7 : Bool) (p0_8 : Int) (p0_9 : Int) (p0_10 : Int) (p0_11 : Int) (p0_12 : Sl) (p0_13 : Int) (p0_14 : Int) (p0_15 : Int) (p0_16 : Int) (p0_17 : Bool) (p0_18 : Int) (p0_19 : Int) (p0_20 : Int) (p0_21 : Int) (p1 : Sl) (p2 : Sl) (w0 : World) (K : Int → World → Prop) (h : F13 p0_0 p0_1 p0_2 p0_3 p0_4 p0_5 p0_6 p0_7 p0_8 p0_9 p0_10 p0_11 p0_12 p0_13 p0_14 p0_15 p0_16 p0_17 p0_18 p0_19 p0_20 p0_21 p1 p2 w0 K) : callC Try.prog 13 #[(V23 p0_0 p0_1 p0_2 p0_3 p0_4 p0_5 p0_6 p0_7 p0_8 p0_9 p0_10 p0_11 p0_12 p0_13 p0_14 p0_15 p0_16 p0_17 p0_18 p0_19 p0_20 p0_21), (Sl.v p1), (Sl.v p2)] (fun (r : Int) => (Value.int .i64 r)) w0 K := by
  unfold F13 at h
  refine calls_of_wpC Try.func13 rfl 59 rfl (by simp) ?_
  intro ρ hρ
  have e0 : ρ 0 = (V23 p0_0 p0_1 p0_2 p0_3 p0_4 p0_5 p0_6 p0_7 p0_8 p0_9 p0_10 p0_11 p0_12 p0_13 p0_14 p0_15 p0_16 p0_17 p0_18 p0_19 p0_20 p0_21) := hρ 0
  have e1 : ρ 1 = (Sl.v p1) := hρ 1
  have e2 : ρ 2 = (Sl.v p2) := hρ 2
  clear hρ
  refine wpC_seq ?_
  refine wpC_region ?_
  obtain ⟨b9, hb9⟩ : ∃ u, u = w0.heap.size := ⟨_, rfl⟩
  obtain ⟨w1, hw9⟩ : ∃ u, u = w0.alloc (.cells (A23 p0_0 p0_1 p0_2 p0_3 p0_4 p0_5 p0_6 p0_7 p0_8 p0_9 p0_10 p0_11 p0_12 p0_13 p0_14 p0_15 p0_16 p0_17 p0_18 p0_19 p0_20 p0_21) 24) := ⟨_, rfl⟩
  replace h := h b9 w1 hb9 hw9
  refine wpR_val (v := (Value.pointer (some (Addr.mk b9 0 none)))) (w' := w1) rfl rfl rfl ((x_box (v := (V23 p0_0 p0_1 p0_2 p0_3 p0_4 p0_5 p0_6 p0_7 p0_8 p0_9 p0_10 p0_11 p0_12 p0_13 p0_14 p0_15 p0_16 p0_17 p0_18 p0_19 p0_20 p0_21)) rfl e0).trans (by rw [hb9, hw9]; rfl)) ?_
  refine wpR_val (v := (Value.int .i64 0)) (w' := w1) rfl rfl rfl (x_assign (v := (Value.int .i64 0)) rfl rfl) ?_
  refine wpR_nil ?_
  refine wpC_seq ?_
  refine wpC_cut (fun ρ => ρ 1 = (Sl.v p1) ∧ ρ 2 = (Sl.v p2) ∧ ρ 3 = (Value.pointer (some (Addr.mk b9 0 none))) ∧ True) ⟨e1, e2, rfl, trivial⟩ ?_
  rintro ρ ⟨e1, e2, e3, -⟩
  refine wpC_region ?_
  obtain ⟨x10, q10, x11, q11, x12, q12, x13, q13, x14, q14, x15, q15, x16, q16, x17, q17, x18, q18, x19, q19, x20, q20, x21, q21, x22, q22, x23, q23, x24, q24, x25, q25, x26, q26, x27, q27, x28, q28, x29, q29, x30, q30, x31, q31, h⟩ := h
  refine wpR_val (v := (V23 x10 x11 x12 x13 x14 x15 x16 x17 x18 x19 x20 x21 x22 x23 x24 x25 x26 x27 x28 x29 x30 x31)) (w' := w1) rfl rfl rfl (x_loadN (S23 x10 x11 x12 x13 x14 x15 x16 x17 x18 x19 x20 x21 x22 x23 x24 x25 x26 x27 x28 x29 x30 x31) rfl e3 SH_24 (K23 ⟨q10, q11, q12, q13, q14, q15, q16, q17, q18, q19, q20, q21, q22, q23, q24, q25, q26, q27, q28, q29, q30, q31⟩)) ?_
  refine wpR_val (v := (Sl.v p1)) (w' := w1) rfl rfl rfl (x_move (v := (Sl.v p1)) rfl e1) ?_
  refine wpR_enter rfl rfl rfl (x_call (vs := [(V23 x10 x11 x12 x13 x14 x15 x16 x17 x18 x19 x20 x21 x22 x23 x24 x25 x26 x27 x28 x29 x30 x31), (Sl.v p1)]) rfl rfl (mapl_cons rfl (mapl_cons rfl mapl_nil)) Try.func10 NN_10 NB_10) (Calls.mono h ?_)
  rintro _ w2 ⟨r32, rfl, h⟩
  refine ⟨_, rfl, ?_⟩
  refine wpR_val (v := (Value.tuple #[(Sl.v r32.1), (Value.int .i64 r32.2)])) (w' := w2) rfl rfl rfl (x_move (v := (Value.tuple #[(Sl.v r32.1), (Value.int .i64 r32.2)])) rfl rfl) ?_
  refine wpR_val (v := (Sl.v r32.1)) (w' := w2) rfl rfl rfl (x_extract rfl rfl rfl) ?_
  refine wpR_val (v := (Value.int .i64 r32.2)) (w' := w2) rfl rfl rfl (x_extract rfl rfl rfl) ?_
  refine wpR_val (v := (Sl.v r32.1)) (w' := w2) rfl rfl rfl (x_assign (v := (Sl.v r32.1)) rfl rfl) ?_
  refine wpR_val (v := (Value.int .i64 r32.2)) (w' := w2) rfl rfl rfl (x_assign (v := (Value.int .i64 r32.2)) rfl rfl) ?_
  refine wpR_nil ?_
  refine wpC_seq ?_
  refine wpC_seq ?_
  refine wpC_cut (fun ρ => ρ 1 = (Sl.v p1) ∧ ρ 2 = (Sl.v p2) ∧ ρ 3 = (Value.pointer (some (Addr.mk b9 0 none))) ∧ ρ 7 = (Sl.v r32.1) ∧ ρ 8 = (Value.int .i64 r32.2) ∧ True) ⟨e1, e2, e3, rfl, rfl, trivial⟩ ?_
  rintro ρ ⟨e1, e2, e3, e7, e8, -⟩
  refine wpC_region ?_
  refine wpR_val (v := (Value.int .i64 r32.2)) (w' := w2) rfl rfl rfl (x_move (v := (Value.int .i64 r32.2)) rfl e8) ?_
  refine wpR_val (v := (Value.bool (!decide (r32.2 = 0)))) (w' := w2) rfl rfl rfl (x_neq rfl rfl rfl) ?_
  refine wpR_nil ?_
  refine wpC_cond (b := !decide (r32.2 = 0)) rfl (fun hc33 => ?_) (fun hc33 => ?_)
  · replace h := h.1 hc33
    refine wpC_seq ?_
    refine wpC_cut (fun ρ => ρ 8 = (Value.int .i64 r32.2) ∧ True) ⟨e8, trivial⟩ ?_
    rintro ρ ⟨e8, -⟩
    refine wpC_region ?_
    refine wpR_val (v := (Value.int .i64 r32.2)) (w' := w2) rfl rfl rfl (x_move (v := (Value.int .i64 r32.2)) rfl e8) ?_
    refine wpR_val (v := (Value.int .i64 r32.2)) (w' := w2) rfl rfl rfl (x_assign (v := (Value.int .i64 r32.2)) rfl rfl) ?_
    refine wpR_nil ?_
    refine wpC_ret ?_
    exact ⟨.inl rfl, fun a ha => ⟨_, results_rep1 rfl ha rfl, r32.2, rfl, h⟩⟩
  · replace h := h.2 hc33
    refine wpC_skip ?_
    refine wpC_seq ?_
    refine wpC_cut (fun ρ => ρ 1 = (Sl.v p1) ∧ ρ 2 = (Sl.v p2) ∧ ρ 3 = (Value.pointer (some (Addr.mk b9 0 none))) ∧ ρ 7 = (Sl.v r32.1) ∧ True) ⟨e1, e2, e3, e7, trivial⟩ ?_
    rintro ρ ⟨e1, e2, e3, e7, -⟩
    refine wpC_region ?_
    refine wpR_val (v := (Value.bool true)) (w' := w2) rfl rfl rfl (x_assign (v := (Value.bool true)) rfl rfl) ?_
    refine wpR_nil ?_
    refine wpC_seq ?_
    refine wpC_seq ?_
    refine wpC_cut (fun ρ => ρ 1 = (Sl.v p1) ∧ ρ 2 = (Sl.v p2) ∧ ρ 3 = (Value.pointer (some (Addr.mk b9 0 none))) ∧ ρ 7 = (Sl.v r32.1) ∧ ρ 9 = (Value.bool true) ∧ True) ⟨e1, e2, e3, e7, rfl, trivial⟩ ?_
    rintro ρ ⟨e1, e2, e3, e7, e9, -⟩
    refine wpC_region ?_
    refine wpR_val (v := (Sl.v p1)) (w' := w2) rfl rfl rfl (x_move (v := (Sl.v p1)) rfl e1) ?_
    refine wpR_val (v := (Value.int .i64 (p1.len : Int))) (w' := w2) rfl rfl rfl (x_lenS (s := p1) rfl rfl isSliceT_25) ?_
    refine wpR_val (v := (Value.int .i64 0)) (w' := w2) rfl rfl rfl (x_move (v := (Value.int .i64 0)) rfl rfl) ?_
    refine wpR_nil ?_
    refine wpC_block ?_
    obtain ⟨I34, μ34, hI34, hr34⟩ := h
    refine wpC_loop (fun (x : Bool × Int) ρ => ρ 9 = (Value.bool x.1) ∧ ρ 25 = (Value.int .i64 x.2) ∧ ρ 2 = (Sl.v p2) ∧ ρ 3 = (Value.pointer (some (Addr.mk b9 0 none))) ∧ ρ 7 = (Sl.v r32.1) ∧ ρ 23 = (Sl.v p1) ∧ ρ 24 = (Value.int .i64 (p1.len : Int)) ∧ True) I34 μ34 (true, 0) ⟨e9, rfl, e2, e3, e7, rfl, rfl, trivial⟩ hI34 ?_
    rintro l34 ρ w3 ⟨e9, e25, e2, e3, e7, e23, e24, -⟩ h
    replace h := hr34 l34 w3 h
    clear hr34 hI34
    refine wpC_seq ?_
    refine wpC_region ?_
    refine wpR_val (v := (Value.bool (decide (l34.2 < (p1.len : Int))))) (w' := w3) rfl rfl rfl (x_lss rfl e25 e24) ?_
    refine wpR_nil ?_
    refine wpC_seq ?_
    refine wpC_cond (b := decide (l34.2 < (p1.len : Int))) rfl (fun hc35 => ?_) (fun hc35 => ?_)
    · replace h := h.1 hc35
      refine wpC_skip ?_
      refine wpC_seq ?_
      refine wpC_block ?_
      refine wpC_seq ?_
      refine wpC_cut (fun ρ => ρ 2 = (Sl.v p2) ∧ ρ 3 = (Value.pointer (some (Addr.mk b9 0 none))) ∧ ρ 7 = (Sl.v r32.1) ∧ ρ 9 = (Value.bool l34.1) ∧ ρ 23 = (Sl.v p1) ∧ ρ 24 = (Value.int .i64 (p1.len : Int)) ∧ ρ 25 = (Value.int .i64 l34.2) ∧ True) ⟨e2, e3, e7, e9, e23, e24, e25, trivial⟩ ?_
      rintro ρ ⟨e2, e3, e7, e9, e23, e24, e25, -⟩
      refine wpC_region ?_
      refine wpR_val (v := (Value.int .i64 l34.2)) (w' := w3) rfl rfl rfl (x_move (v := (Value.int .i64 l34.2)) rfl e25) ?_
      obtain ⟨q36, z36, r36, h⟩ := h
      generalize hp36 : z36.add ((l34.2 : Int).toNat * 2) = p36 at h
      refine wpR_val (v := (Value.pointer (some p36))) (w' := w3) rfl rfl rfl ((x_indexAddr (s := p1) rfl e23 e25 ES_25 q36 r36).trans (by rw [hp36])) ?_
      obtain ⟨x37, q37, x38, q38, h⟩ := h
      refine wpR_val (v := (Value.agg #[(Value.int .i64 x37), (Value.int .i64 x38)])) (w' := w3) rfl rfl rfl (x_loadN [(Value.int .i64 x37), (Value.int .i64 x38)] rfl rfl SH_46 (CellsAt.out (CellsAt.cons q37 (CellsAt.cons q38 CellsAt.nil)))) ?_
      obtain ⟨b39, hb39⟩ : ∃ u, u = w3.heap.size := ⟨_, rfl⟩
      obtain ⟨w4, hw39⟩ : ∃ u, u = w3.alloc (.cells #[(Value.int .i64 0), (Value.int .i64 0)] 46) := ⟨_, rfl⟩
      replace h := h b39 w4 hb39 hw39
      refine wpR_val (v := (Value.pointer (some (Addr.mk b39 0 none)))) (w' := w4) rfl rfl rfl ((x_alloc rfl ZV_46).trans (by rw [hb39, hw39]; rfl)) ?_
      refine wpR_val (v := (Value.int .i64 l34.2)) (w' := w4) rfl rfl rfl (x_assign (v := (Value.int .i64 l34.2)) rfl rfl) ?_
      obtain ⟨q40, h⟩ := h
      obtain ⟨w5, hw40⟩ : ∃ u, u = setAll w4 (Addr.mk b39 0 none) [(Value.int .i64 x37), (Value.int .i64 x38)] 0 := ⟨_, rfl⟩
      replace h := h w5 hw40
      refine wpR_skp (w' := w5) rfl rfl ((x_store (v := (Value.agg #[(Value.int .i64 x37), (Value.int .i64 x38)])) rfl rfl rfl SZ_46 (ones (by rfl)) q40).trans (by rw [hw40]; rfl)) ?_
      refine wpR_nil ?_
      refine wpC_seq ?_
      refine wpC_cut (fun ρ => ρ 2 = (Sl.v p2) ∧ ρ 3 = (Value.pointer (some (Addr.mk b9 0 none))) ∧ ρ 7 = (Sl.v r32.1) ∧ ρ 9 = (Value.bool l34.1) ∧ ρ 10 = (Value.int .i64 l34.2) ∧ ρ 11 = (Value.pointer (some (Addr.mk b39 0 none))) ∧ ρ 23 = (Sl.v p1) ∧ ρ 24 = (Value.int .i64 (p1.len : Int)) ∧ ρ 25 = (Value.int .i64 l34.2) ∧ True) ⟨e2, e3, e7, e9, rfl, rfl, e23, e24, e25, trivial⟩ ?_
      rintro ρ ⟨e2, e3, e7, e9, e10, e11, e23, e24, e25, -⟩
      refine wpC_region ?_
      obtain ⟨x41, q41, x42, q42, x43, q43, x44, q44, x45, q45, x46, q46, x47, q47, x48, q48, x49, q49, x50, q50, x51, q51, x52, q52, x53, q53, x54, q54, x55, q55, x56, q56, x57, q57, x58, q58, x59, q59, x60, q60, x61, q61, x62, q62, h⟩ := h
      refine wpR_val (v := (V23 x41 x42 x43 x44 x45 x46 x47 x48 x49 x50 x51 x52 x53 x54 x55 x56 x57 x58 x59 x60 x61 x62)) (w' := w5) rfl rfl rfl (x_loadN (S23 x41 x42 x43 x44 x45 x46 x47 x48 x49 x50 x51 x52 x53 x54 x55 x56 x57 x58 x59 x60 x61 x62) rfl e3 SH_24 (K23 ⟨q41, q42, q43, q44, q45, q46, q47, q48, q49, q50, q51, q52, q53, q54, q55, q56, q57, q58, q59, q60, q61, q62⟩)) ?_
      refine wpR_val (v := (Value.int .i64 l34.2)) (w' := w5) rfl rfl rfl (x_move (v := (Value.int .i64 l34.2)) rfl e10) ?_
      refine wpR_enter rfl rfl rfl (x_call (vs := [(V23 x41 x42 x43 x44 x45 x46 x47 x48 x49 x50 x51 x52 x53 x54 x55 x56 x57 x58 x59 x60 x61 x62), (Value.int .i64 l34.2)]) rfl rfl (mapl_cons rfl (mapl_cons rfl mapl_nil)) Try.func29 NN_29 NB_29) (Calls.mono h ?_)
      rintro _ w6 ⟨r63, rfl, h⟩
      refine ⟨_, rfl, ?_⟩
      refine wpR_val (v := (Sl.v r63)) (w' := w6) rfl rfl rfl (x_assign (v := (Sl.v r63)) rfl rfl) ?_
      refine wpR_nil ?_
      refine wpC_seq ?_
      refine wpC_seq ?_
      refine wpC_cut (fun ρ => ρ 2 = (Sl.v p2) ∧ ρ 3 = (Value.pointer (some (Addr.mk b9 0 none))) ∧ ρ 7 = (Sl.v r32.1) ∧ ρ 9 = (Value.bool l34.1) ∧ ρ 11 = (Value.pointer (some (Addr.mk b39 0 none))) ∧ ρ 12 = (Sl.v r63) ∧ ρ 23 = (Sl.v p1) ∧ ρ 24 = (Value.int .i64 (p1.len : Int)) ∧ ρ 25 = (Value.int .i64 l34.2) ∧ True) ⟨e2, e3, e7, e9, e11, rfl, e23, e24, e25, trivial⟩ ?_
      rintro ρ ⟨e2, e3, e7, e9, e11, e12, e23, e24, e25, -⟩
      refine wpC_region ?_
      refine wpR_val (v := (Sl.v r63)) (w' := w6) rfl rfl rfl (x_move (v := (Sl.v r63)) rfl e12) ?_
      obtain ⟨x64, q64, x65, q65, h⟩ := h
      refine wpR_val (v := (Value.agg #[(Value.int .i64 x64), (Value.int .i64 x65)])) (w' := w6) rfl rfl rfl (x_loadN [(Value.int .i64 x64), (Value.int .i64 x65)] rfl e11 SH_46 (CellsAt.out (CellsAt.cons q64 (CellsAt.cons q65 CellsAt.nil)))) ?_
      refine wpR_val (v := (Value.agg #[(Value.int .i64 x64), (Value.int .i64 x65), (Value.bool true)])) (w' := w6) rfl rfl rfl (x_build (qs := [(0, (Value.agg #[(Value.int .i64 x64), (Value.int .i64 x65)])), (1, (Value.bool true))]) rfl (by rfl) (BD_55_0_1 x64 x65 true _)) ?_
      refine wpR_enter rfl rfl rfl (x_call (vs := [(Sl.v r63), (Value.agg #[(Value.int .i64 x64), (Value.int .i64 x65), (Value.bool true)])]) rfl rfl (mapl_cons rfl (mapl_cons rfl mapl_nil)) Try.func30 NN_30 NB_30) (Calls.mono h ?_)
      rintro _ w7 ⟨r66, rfl, h⟩
      refine ⟨_, rfl, ?_⟩
      refine wpR_val (v := (Value.bool (!r66))) (w' := w7) rfl rfl rfl (x_not rfl rfl) ?_
      refine wpR_nil ?_
      refine wpC_cond (b := !r66) rfl (fun hc67 => ?_) (fun hc67 => ?_)
      · replace h := h.1 hc67
        refine wpC_seq ?_
        refine wpC_cut (fun ρ => True) trivial ?_
        rintro ρ -
        refine wpC_region ?_
        refine wpR_val (v := (Value.int .i64 7)) (w' := w7) rfl rfl rfl (x_assign (v := (Value.int .i64 7)) rfl rfl) ?_
        refine wpR_nil ?_
        refine wpC_ret ?_
        exact ⟨.inl rfl, fun a ha => ⟨_, results_rep1 rfl ha rfl, 7, rfl, h⟩⟩
      · replace h := h.2 hc67
        refine wpC_skip ?_
        refine wpC_seq ?_
        refine wpC_cut (fun ρ => ρ 2 = (Sl.v p2) ∧ ρ 3 = (Value.pointer (some (Addr.mk b9 0 none))) ∧ ρ 7 = (Sl.v r32.1) ∧ ρ 9 = (Value.bool l34.1) ∧ ρ 11 = (Value.pointer (some (Addr.mk b39 0 none))) ∧ ρ 12 = (Sl.v r63) ∧ ρ 23 = (Sl.v p1) ∧ ρ 24 = (Value.int .i64 (p1.len : Int)) ∧ ρ 25 = (Value.int .i64 l34.2) ∧ True) ⟨e2, e3, e7, e9, e11, e12, e23, e24, e25, trivial⟩ ?_
        rintro ρ ⟨e2, e3, e7, e9, e11, e12, e23, e24, e25, -⟩
        refine wpC_region ?_
        refine wpR_val (v := (Sl.v r63)) (w' := w7) rfl rfl rfl (x_move (v := (Sl.v r63)) rfl e12) ?_
        refine wpR_enter rfl rfl rfl (x_call (vs := [(Sl.v r63), (Value.func (.func 32) #[] #[])]) rfl rfl (mapl_cons rfl (mapl_cons rfl mapl_nil)) Try.func31 NN_31 NB_31) (Calls.mono h ?_)
        rintro _ w8 ⟨r68, rfl, h⟩
        refine ⟨_, rfl, ?_⟩
        refine wpR_val (v := (Value.int .i64 r68)) (w' := w8) rfl rfl rfl (x_assign (v := (Value.int .i64 r68)) rfl rfl) ?_
        refine wpR_nil ?_
        refine wpC_cut (fun ρ => ρ 2 = (Sl.v p2) ∧ ρ 3 = (Value.pointer (some (Addr.mk b9 0 none))) ∧ ρ 7 = (Sl.v r32.1) ∧ ρ 9 = (Value.bool l34.1) ∧ ρ 11 = (Value.pointer (some (Addr.mk b39 0 none))) ∧ ρ 12 = (Sl.v r63) ∧ ρ 13 = (Value.int .i64 r68) ∧ ρ 23 = (Sl.v p1) ∧ ρ 24 = (Value.int .i64 (p1.len : Int)) ∧ ρ 25 = (Value.int .i64 l34.2) ∧ True) ⟨e2, e3, e7, e9, e11, e12, rfl, e23, e24, e25, trivial⟩ ?_
        rintro ρ ⟨e2, e3, e7, e9, e11, e12, e13, e23, e24, e25, -⟩
        obtain ⟨J70, h, hk⟩ := h
        refine wpC_drawJ (by kernel_rfl) (fun (x : Bool) ρ => ρ 9 = (Value.bool x) ∧ ρ 2 = (Sl.v p2) ∧ ρ 3 = (Value.pointer (some (Addr.mk b9 0 none))) ∧ ρ 7 = (Sl.v r32.1) ∧ ρ 23 = (Sl.v p1) ∧ ρ 24 = (Value.int .i64 (p1.len : Int)) ∧ ρ 25 = (Value.int .i64 l34.2) ∧ True) J70 ?_ ?_
        · clear hk
          unfold tk at h
          generalize w8.drew = w9 at h ⊢
          refine wpD_take (v := (Value.bool l34.1)) 0 (fun _ => True) rfl (by kernel_rfl) (by kernel_rfl) (by kernel_rfl) rfl rfl rfl trivial (fun w _ => (x_move (v := (Value.bool l34.1)) rfl e9)) ?_
          refine wpD_take (v := (Value.bool l34.1)) 1 (fun _ => True) rfl (by kernel_rfl) (by kernel_rfl) (by kernel_rfl) rfl rfl rfl trivial (fun w _ => (x_move (v := (Value.bool l34.1)) rfl rfl)) ?_
          rcases Bool.eq_false_or_eq_true (l34.1) with hc71 | hc71
          · replace h := h.1 hc71
            refine wpD_take (v := (Sl.v r63)) 2 (fun _ => True) rfl (by kernel_rfl) (by kernel_rfl) (by kernel_rfl) (wantG rfl rfl rfl hc71) rfl rfl trivial (fun w _ => (x_move (v := (Sl.v r63)) rfl e12)) ?_
            refine wpD_take (v := (Value.int .i64 r68)) 3 (fun _ => True) rfl (by kernel_rfl) (by kernel_rfl) (by kernel_rfl) (wantG rfl rfl rfl hc71) rfl rfl trivial (fun w _ => (x_move (v := (Value.int .i64 r68)) rfl e13)) ?_
            obtain ⟨q72, z72, r72, h⟩ := h
            generalize hp72 : z72.add ((r68 : Int).toNat * 3) = p72 at h
            refine wpD_take (v := (Value.pointer (some p72))) 4 (fun _ => True) rfl (by kernel_rfl) (by kernel_rfl) (by kernel_rfl) (wantG rfl rfl rfl hc71) rfl rfl trivial (fun w _ => ((x_indexAddr (s := r63) rfl rfl rfl ES_51 q72 r72).trans (by rw [hp72]))) ?_
            refine wpD_take (v := (Value.pointer (some (p72.add 0)))) 5 (fun _ => True) rfl (by kernel_rfl) (by kernel_rfl) (by kernel_rfl) (wantG rfl rfl rfl hc71) rfl rfl trivial (fun w _ => (x_fieldAddr rfl rfl FA_55_0)) ?_
            obtain ⟨x73, q73, x74, q74, h⟩ := h
            refine wpD_take (v := (Value.agg #[(Value.int .i64 x73), (Value.int .i64 x74)])) 6 (fun w => w.cell? ((p72.add 0).add 0) = some (Value.int .i64 x73) ∧ w.cell? ((p72.add 0).add 1) = some (Value.int .i64 x74)) rfl (by kernel_rfl) (by kernel_rfl) (by kernel_rfl) (wantG rfl rfl rfl hc71) rfl rfl ⟨q73, q74⟩ (fun w ⟨q73, q74⟩ => (x_loadN [(Value.int .i64 x73), (Value.int .i64 x74)] rfl rfl SH_46 (CellsAt.out (CellsAt.cons q73 (CellsAt.cons q74 CellsAt.nil))))) ?_
            obtain ⟨x75, q75, x76, q76, h⟩ := h
            refine wpD_take (v := (Value.agg #[(Value.int .i64 x75), (Value.int .i64 x76)])) 7 (fun w => w.cell? ((Addr.mk b39 0 none).add 0) = some (Value.int .i64 x75) ∧ w.cell? ((Addr.mk b39 0 none).add 1) = some (Value.int .i64 x76)) rfl (by kernel_rfl) (by kernel_rfl) (by kernel_rfl) (wantG rfl rfl rfl hc71) rfl rfl ⟨q75, q76⟩ (fun w ⟨q75, q76⟩ => (x_loadN [(Value.int .i64 x75), (Value.int .i64 x76)] rfl e11 SH_46 (CellsAt.out (CellsAt.cons q75 (CellsAt.cons q76 CellsAt.nil))))) ?_
            refine wpD_take (v := (Value.bool (decide (x73 = x75) && (decide (x74 = x76) && true)))) 8 (fun _ => True) rfl (by kernel_rfl) (by kernel_rfl) (by kernel_rfl) (wantG rfl rfl rfl hc71) rfl rfl trivial (fun w _ => (x_eqlA rfl rfl rfl EQ1_46 EQ2_46 EQ3_46 (EQ_46 x73 x74 x75 x76))) ?_
            refine wpD_take (v := (Value.bool (decide (x73 = x75) && (decide (x74 = x76) && true)))) 9 (fun _ => True) rfl (by kernel_rfl) (by kernel_rfl) (by kernel_rfl) rfl rfl rfl trivial (fun w _ => (x_pickT (v := (Value.bool (decide (x73 = x75) && (decide (x74 = x76) && true)))) rfl rfl hc71 rfl)) ?_
            refine wpD_take (v := (Value.bool (decide (x73 = x75) && (decide (x74 = x76) && true)))) 10 (fun _ => True) rfl (by kernel_rfl) (by kernel_rfl) (by kernel_rfl) rfl rfl rfl trivial (fun w _ => (x_assign (v := (Value.bool (decide (x73 = x75) && (decide (x74 = x76) && true)))) rfl rfl)) ?_
            exact wpD_done (by kernel_rfl) ⟨(decide (x73 = x75) && (decide (x74 = x76) && true)), ⟨rfl, e2, e3, e7, e23, e24, e25, trivial⟩, h⟩
          · replace h := h.2 hc71
            refine wpD_pass 2 rfl (by kernel_rfl) (by kernel_rfl) (by kernel_rfl) (wantN rfl rfl rfl hc71) rfl rfl ?_
            refine wpD_pass 3 rfl (by kernel_rfl) (by kernel_rfl) (by kernel_rfl) (wantN rfl rfl rfl hc71) rfl rfl ?_
            refine wpD_pass 4 rfl (by kernel_rfl) (by kernel_rfl) (by kernel_rfl) (wantN rfl rfl rfl hc71) rfl rfl ?_
            refine wpD_pass 5 rfl (by kernel_rfl) (by kernel_rfl) (by kernel_rfl) (wantN rfl rfl rfl hc71) rfl rfl ?_
            refine wpD_pass 6 rfl (by kernel_rfl) (by kernel_rfl) (by kernel_rfl) (wantN rfl rfl rfl hc71) rfl rfl ?_
            refine wpD_pass 7 rfl (by kernel_rfl) (by kernel_rfl) (by kernel_rfl) (wantN rfl rfl rfl hc71) rfl rfl ?_
            refine wpD_pass 8 rfl (by kernel_rfl) (by kernel_rfl) (by kernel_rfl) (wantN rfl rfl rfl hc71) rfl rfl ?_
            refine wpD_take (v := (Value.bool false)) 9 (fun _ => True) rfl (by kernel_rfl) (by kernel_rfl) (by kernel_rfl) rfl rfl rfl trivial (fun w _ => (x_pickF (v := (Value.bool false)) rfl rfl hc71 rfl)) ?_
            refine wpD_take (v := (Value.bool false)) 10 (fun _ => True) rfl (by kernel_rfl) (by kernel_rfl) (by kernel_rfl) rfl rfl rfl trivial (fun w _ => (x_assign (v := (Value.bool false)) rfl rfl)) ?_
            exact wpD_done (by kernel_rfl) ⟨false, ⟨rfl, e2, e3, e7, e23, e24, e25, trivial⟩, h⟩
        clear h
        rintro l77 ρ w10 ⟨e9, e2, e3, e7, e23, e24, e25, -⟩ h
        replace h := hk l77 w10 h
        clear hk
        refine wpC_region ?_
        refine wpR_val (v := (Value.int .i64 (IntKind.i64.wrap (l34.2 + 1)))) (w' := w10) rfl rfl rfl (x_add rfl e25 rfl) ?_
        refine wpR_val (v := (Value.int .i64 (IntKind.i64.wrap (l34.2 + 1)))) (w' := w10) rfl rfl rfl (x_move (v := (Value.int .i64 (IntKind.i64.wrap (l34.2 + 1)))) rfl rfl) ?_
        refine wpR_nil ?_
        exact ⟨(l77, IntKind.i64.wrap (l34.2 + 1)), ⟨e9, rfl, e2, e3, e7, e23, e24, trivial⟩, h⟩
    · replace h := h.2 hc35
      refine wpC_exit ?_
      refine wpC_seq ?_
      refine wpC_seq ?_
      refine wpC_cut (fun ρ => ρ 2 = (Sl.v p2) ∧ ρ 7 = (Sl.v r32.1) ∧ ρ 9 = (Value.bool l34.1) ∧ True) ⟨e2, e7, e9, trivial⟩ ?_
      rintro ρ ⟨e2, e7, e9, -⟩
      refine wpC_region ?_
      refine wpR_val (v := (Value.bool l34.1)) (w' := w3) rfl rfl rfl (x_move (v := (Value.bool l34.1)) rfl e9) ?_
      refine wpR_val (v := (Value.bool (!l34.1))) (w' := w3) rfl rfl rfl (x_not rfl rfl) ?_
      refine wpR_val (v := (Value.bool (!l34.1))) (w' := w3) rfl rfl rfl (x_move (v := (Value.bool (!l34.1))) rfl rfl) ?_
      obtain ⟨J78, h, hk⟩ := h
      refine wpR_joinJ 5 (fun x ρ => ρ 58 = Value.bool x ∧ True) (J78) ?_ ?_
      · clear hk
        rcases Bool.eq_false_or_eq_true (!l34.1) with hc79 | hc79
        · replace h := h.1 hc79
          refine wpR_pass (wantN rfl rfl rfl hc79) rfl rfl ?_
          refine wpR_pass (wantN rfl rfl rfl hc79) rfl rfl ?_
          refine wpR_pass (wantN rfl rfl rfl hc79) rfl rfl ?_
          refine wpR_pass (wantN rfl rfl rfl hc79) rfl rfl ?_
          refine wpR_val (v := (Value.bool true)) (w' := w3) rfl rfl rfl (x_pickT (v := (Value.bool true)) rfl rfl hc79 rfl) ?_
          refine wpR_nil ?_
          exact ⟨true, ⟨rfl, trivial⟩, h⟩
        · replace h := h.2 hc79
          refine wpR_val (v := (Sl.v r32.1)) (w' := w3) (wantG rfl rfl rfl hc79) rfl rfl (x_move (v := (Sl.v r32.1)) rfl e7) ?_
          refine wpR_val (v := (Sl.v p2)) (w' := w3) (wantG rfl rfl rfl hc79) rfl rfl (x_move (v := (Sl.v p2)) rfl e2) ?_
          refine wpR_enter (wantG rfl rfl rfl hc79) rfl rfl (x_call (vs := [(Sl.v r32.1), (Sl.v p2)]) rfl rfl (mapl_cons rfl (mapl_cons rfl mapl_nil)) Try.func33 NN_33 NB_33) (Calls.mono h ?_)
          rintro _ w11 ⟨r80, rfl, h⟩
          refine ⟨_, rfl, ?_⟩
          refine wpR_val (v := (Value.bool (!r80))) (w' := w11) (wantG rfl rfl rfl hc79) rfl rfl (x_not rfl rfl) ?_
          refine wpR_val (v := (Value.bool (!r80))) (w' := w11) rfl rfl rfl (x_pickF (v := (Value.bool (!r80))) rfl rfl hc79 rfl) ?_
          refine wpR_nil ?_
          exact ⟨!r80, ⟨rfl, trivial⟩, h⟩
      clear h
      rintro c81 ρ w12 ⟨e58, -⟩ h
      replace h := hk c81 w12 h
      clear hk
      refine wpR_nil ?_
      refine wpC_cond (b := c81) e58 (fun hc82 => ?_) (fun hc82 => ?_)
      · replace h := h.1 hc82
        refine wpC_seq ?_
        refine wpC_region ?_
        refine wpR_val (v := (Value.int .i64 18)) (w' := w12) rfl rfl rfl (x_assign (v := (Value.int .i64 18)) rfl rfl) ?_
        refine wpR_nil ?_
        refine wpC_ret ?_
        exact ⟨.inl rfl, fun a ha => ⟨_, results_rep1 rfl ha rfl, 18, rfl, h⟩⟩
      · replace h := h.2 hc82
        refine wpC_skip ?_
        refine wpC_seq ?_
        refine wpC_region ?_
        refine wpR_val (v := (Value.int .i64 0)) (w' := w12) rfl rfl rfl (x_assign (v := (Value.int .i64 0)) rfl rfl) ?_
        refine wpR_nil ?_
        refine wpC_ret ?_
        exact ⟨.inl rfl, fun a ha => ⟨_, results_rep1 rfl ha rfl, 0, rfl, h⟩⟩

/-- loss.Worse -/
def F15 (p0 : Sl) (p1 : Sl) (w0 : World) (K : Bool → World → Prop) : Prop :=
  callC Try.prog 36 #[(Sl.v p0)] (fun (r : Sl × Bool) => (Value.tuple #[(Sl.v r.1), (Value.bool r.2)])) w0 fun r9 w1 =>
  callC Try.prog 36 #[(Sl.v p1)] (fun (r : Sl × Bool) => (Value.tuple #[(Sl.v r.1), (Value.bool r.2)])) w1 fun r10 w2 =>
  cnd ((!r9.2) || (!r10.2))
    (
    K false w2
    )
    (
    lp (fun (next14 : (Bool × Int) → World → Prop) l14 w3 =>
      cnd (decide (l14.2 < (r9.1.len : Int)))
        (
        jn (fun (J17 : Bool → World → Prop) => tk w3 fun w4 =>
          ix r9.1 l14.2 1 fun p18 =>
          ld (Value.int .i64) p18 w4 fun x19 =>
          ix r10.1 l14.2 1 fun p20 =>
          ld (Value.int .i64) p20 w4 fun x21 =>
          J17 (decide (x19 < x21)) w4
        )
        fun l22 w5 =>
        cnd (l22)
          (
          K false w5
          )
          (
          jn (fun (J25 : Bool → World → Prop) => tk w5 fun w6 =>
            cnd (l14.1)
              (
              J25 true w6
              )
              (
              ix r9.1 l14.2 1 fun p27 =>
              ld (Value.int .i64) p27 w6 fun x28 =>
              ix r10.1 l14.2 1 fun p29 =>
              ld (Value.int .i64) p29 w6 fun x30 =>
              J25 (decide (x30 < x28)) w6
              )
          )
          fun l31 w7 =>
          next14 (l31, IntKind.i64.wrap (l14.2 + 1)) w7
          )
        )
        (
        K l14.1 w3
        )
    ) (false, 0) w2
    )
set_option maxRecDepth 100000 in
theorem D15 (p0 : Sl) (p1 : Sl) (w0 : World) (K : Bool → World → Prop) (h : F15 p0 p1 w0 K) : callC Try.prog 15 #[(Sl.v p0), (Sl.v p1)] (fun (r : Bool) => (Value.bool r)) w0 K := by
  unfold F15 at h
  refine calls_of_wpC Try.func15 rfl 55 rfl (by simp) ?_
  intro ρ hρ
  have e0 : ρ 0 = (Sl.v p0) := hρ 0
  have e1 : ρ 1 = (Sl.v p1) := hρ 1
  clear hρ
  refine wpC_seq ?_
  refine wpC_region ?_
  refine wpR_val (v := (Value.bool false)) (w' := w0) rfl rfl rfl (x_assign (v := (Value.bool false)) rfl rfl) ?_
  refine wpR_nil ?_
  refine wpC_seq ?_
  refine wpC_cut (fun ρ => ρ 0 = (Sl.v p0) ∧ ρ 1 = (Sl.v p1) ∧ True) ⟨e0, e1, trivial⟩ ?_
  rintro ρ ⟨e0, e1, -⟩
  refine wpC_region ?_
  refine wpR_val (v := (Sl.v p0)) (w' := w0) rfl rfl rfl (x_move (v := (Sl.v p0)) rfl e0) ?_
  refine wpR_enter rfl rfl rfl (x_call (vs := [(Sl.v p0)]) rfl rfl (mapl_cons rfl mapl_nil) Try.func36 NN_36 NB_36) (Calls.mono h ?_)
  rintro _ w1 ⟨r9, rfl, h⟩
  refine ⟨_, rfl, ?_⟩
  refine wpR_val (v := (Value.tuple #[(Sl.v r9.1), (Value.bool r9.2)])) (w' := w1) rfl rfl rfl (x_move (v := (Value.tuple #[(Sl.v r9.1), (Value.bool r9.2)])) rfl rfl) ?_
  refine wpR_val (v := (Sl.v r9.1)) (w' := w1) rfl rfl rfl (x_extract rfl rfl rfl) ?_
  refine wpR_val (v := (Value.bool r9.2)) (w' := w1) rfl rfl rfl (x_extract rfl rfl rfl) ?_
  refine wpR_val (v := (Sl.v r9.1)) (w' := w1) rfl rfl rfl (x_assign (v := (Sl.v r9.1)) rfl rfl) ?_
  refine wpR_val (v := (Value.bool r9.2)) (w' := w1) rfl rfl rfl (x_assign (v := (Value.bool r9.2)) rfl rfl) ?_
  refine wpR_nil ?_
  refine wpC_seq ?_
  refine wpC_cut (fun ρ => ρ 1 = (Sl.v p1) ∧ ρ 5 = (Sl.v r9.1) ∧ ρ 6 = (Value.bool r9.2) ∧ True) ⟨e1, rfl, rfl, trivial⟩ ?_
  rintro ρ ⟨e1, e5, e6, -⟩
  refine wpC_region ?_
  refine wpR_val (v := (Sl.v p1)) (w' := w1) rfl rfl rfl (x_move (v := (Sl.v p1)) rfl e1) ?_
  refine wpR_enter rfl rfl rfl (x_call (vs := [(Sl.v p1)]) rfl rfl (mapl_cons rfl mapl_nil) Try.func36 NN_36 NB_36) (Calls.mono h ?_)
  rintro _ w2 ⟨r10, rfl, h⟩
  refine ⟨_, rfl, ?_⟩
  refine wpR_val (v := (Value.tuple #[(Sl.v r10.1), (Value.bool r10.2)])) (w' := w2) rfl rfl rfl (x_move (v := (Value.tuple #[(Sl.v r10.1), (Value.bool r10.2)])) rfl rfl) ?_
  refine wpR_val (v := (Sl.v r10.1)) (w' := w2) rfl rfl rfl (x_extract rfl rfl rfl) ?_
  refine wpR_val (v := (Value.bool r10.2)) (w' := w2) rfl rfl rfl (x_extract rfl rfl rfl) ?_
  refine wpR_val (v := (Sl.v r10.1)) (w' := w2) rfl rfl rfl (x_assign (v := (Sl.v r10.1)) rfl rfl) ?_
  refine wpR_val (v := (Value.bool r10.2)) (w' := w2) rfl rfl rfl (x_assign (v := (Value.bool r10.2)) rfl rfl) ?_
  refine wpR_nil ?_
  refine wpC_seq ?_
  refine wpC_seq ?_
  refine wpC_cut (fun ρ => ρ 5 = (Sl.v r9.1) ∧ ρ 6 = (Value.bool r9.2) ∧ ρ 7 = (Sl.v r10.1) ∧ ρ 8 = (Value.bool r10.2) ∧ True) ⟨e5, e6, rfl, rfl, trivial⟩ ?_
  rintro ρ ⟨e5, e6, e7, e8, -⟩
  refine wpC_region ?_
  refine wpR_val (v := (Value.bool r9.2)) (w' := w2) rfl rfl rfl (x_move (v := (Value.bool r9.2)) rfl e6) ?_
  refine wpR_val (v := (Value.bool (!r9.2))) (w' := w2) rfl rfl rfl (x_not rfl rfl) ?_
  refine wpR_val (v := (Value.bool (!r9.2))) (w' := w2) rfl rfl rfl (x_move (v := (Value.bool (!r9.2))) rfl rfl) ?_
  refine wpR_joinJ 3 (fun (_ : Unit) ρ => ρ 26 = Value.bool ((!r9.2) || (!r10.2)) ∧ ρ 5 = (Sl.v r9.1) ∧ ρ 7 = (Sl.v r10.1) ∧ True) (fun _ w => w2 = w) ?_ ?_
  · clear h
    rcases Bool.eq_false_or_eq_true (!r9.2) with hc12 | hc12
    · skip
      refine wpR_pass (wantN rfl rfl rfl hc12) rfl rfl ?_
      refine wpR_pass (wantN rfl rfl rfl hc12) rfl rfl ?_
      refine wpR_val (v := (Value.bool true)) (w' := w2) rfl rfl rfl (x_pickT (v := (Value.bool true)) rfl rfl hc12 rfl) ?_
      refine wpR_nil ?_
      exact ⟨(), ⟨(by rw [hc12]; rfl), e5, e7, trivial⟩, rfl⟩
    · skip
      refine wpR_val (v := (Value.bool r10.2)) (w' := w2) (wantG rfl rfl rfl hc12) rfl rfl (x_move (v := (Value.bool r10.2)) rfl e8) ?_
      refine wpR_val (v := (Value.bool (!r10.2))) (w' := w2) (wantG rfl rfl rfl hc12) rfl rfl (x_not rfl rfl) ?_
      refine wpR_val (v := (Value.bool (!r10.2))) (w' := w2) rfl rfl rfl (x_pickF (v := (Value.bool (!r10.2))) rfl rfl hc12 rfl) ?_
      refine wpR_nil ?_
      exact ⟨(), ⟨(by rw [hc12]; rfl), e5, e7, trivial⟩, rfl⟩
  rintro _ ρ wj ⟨e26, e5, e7, -⟩ rfl
  refine wpR_nil ?_
  refine wpC_cond (b := (!r9.2) || (!r10.2)) e26 (fun hc13 => ?_) (fun hc13 => ?_)
  · replace h := h.1 hc13
    refine wpC_seq ?_
    refine wpC_region ?_
    refine wpR_val (v := (Value.bool false)) (w' := w2) rfl rfl rfl (x_assign (v := (Value.bool false)) rfl rfl) ?_
    refine wpR_nil ?_
    refine wpC_ret ?_
    exact ⟨.inl rfl, fun a ha => ⟨_, results_rep1 rfl ha rfl, false, rfl, h⟩⟩
  · replace h := h.2 hc13
    refine wpC_skip ?_
    refine wpC_seq ?_
    refine wpC_region ?_
    refine wpR_val (v := (Value.bool false)) (w' := w2) rfl rfl rfl (x_assign (v := (Value.bool false)) rfl rfl) ?_
    refine wpR_nil ?_
    refine wpC_seq ?_
    refine wpC_seq ?_
    refine wpC_cut (fun ρ => ρ 5 = (Sl.v r9.1) ∧ ρ 7 = (Sl.v r10.1) ∧ ρ 9 = (Value.bool false) ∧ True) ⟨e5, e7, rfl, trivial⟩ ?_
    rintro ρ ⟨e5, e7, e9, -⟩
    refine wpC_region ?_
    refine wpR_val (v := (Sl.v r9.1)) (w' := w2) rfl rfl rfl (x_move (v := (Sl.v r9.1)) rfl e5) ?_
    refine wpR_val (v := (Value.int .i64 (r9.1.len : Int))) (w' := w2) rfl rfl rfl (x_lenS (s := r9.1) rfl rfl isSliceT_63) ?_
    refine wpR_val (v := (Value.int .i64 0)) (w' := w2) rfl rfl rfl (x_move (v := (Value.int .i64 0)) rfl rfl) ?_
    refine wpR_nil ?_
    refine wpC_block ?_
    obtain ⟨I14, μ14, hI14, hr14⟩ := h
    refine wpC_loop (fun (x : Bool × Int) ρ => ρ 9 = (Value.bool x.1) ∧ ρ 29 = (Value.int .i64 x.2) ∧ ρ 5 = (Sl.v r9.1) ∧ ρ 7 = (Sl.v r10.1) ∧ ρ 28 = (Value.int .i64 (r9.1.len : Int)) ∧ True) I14 μ14 (false, 0) ⟨e9, rfl, e5, e7, rfl, trivial⟩ hI14 ?_
    rintro l14 ρ w3 ⟨e9, e29, e5, e7, e28, -⟩ h
    replace h := hr14 l14 w3 h
    clear hr14 hI14
    refine wpC_seq ?_
    refine wpC_region ?_
    refine wpR_val (v := (Value.bool (decide (l14.2 < (r9.1.len : Int))))) (w' := w3) rfl rfl rfl (x_lss rfl e29 e28) ?_
    refine wpR_nil ?_
    refine wpC_seq ?_
    refine wpC_cond (b := decide (l14.2 < (r9.1.len : Int))) rfl (fun hc15 => ?_) (fun hc15 => ?_)
    · replace h := h.1 hc15
      refine wpC_skip ?_
      refine wpC_seq ?_
      refine wpC_block ?_
      refine wpC_seq ?_
      refine wpC_cut (fun ρ => ρ 5 = (Sl.v r9.1) ∧ ρ 7 = (Sl.v r10.1) ∧ ρ 9 = (Value.bool l14.1) ∧ ρ 28 = (Value.int .i64 (r9.1.len : Int)) ∧ ρ 29 = (Value.int .i64 l14.2) ∧ True) ⟨e5, e7, e9, e28, e29, trivial⟩ ?_
      rintro ρ ⟨e5, e7, e9, e28, e29, -⟩
      refine wpC_region ?_
      refine wpR_val (v := (Value.int .i64 l14.2)) (w' := w3) rfl rfl rfl (x_move (v := (Value.int .i64 l14.2)) rfl e29) ?_
      refine wpR_val (v := (Value.int .i64 l14.2)) (w' := w3) rfl rfl rfl (x_assign (v := (Value.int .i64 l14.2)) rfl rfl) ?_
      refine wpR_nil ?_
      refine wpC_seq ?_
      refine wpC_seq ?_
      refine wpC_cut (fun ρ => ρ 5 = (Sl.v r9.1) ∧ ρ 7 = (Sl.v r10.1) ∧ ρ 9 = (Value.bool l14.1) ∧ ρ 10 = (Value.int .i64 l14.2) ∧ ρ 28 = (Value.int .i64 (r9.1.len : Int)) ∧ ρ 29 = (Value.int .i64 l14.2) ∧ True) ⟨e5, e7, e9, rfl, e28, e29, trivial⟩ ?_
      rintro ρ ⟨e5, e7, e9, e10, e28, e29, -⟩
      obtain ⟨J17, h, hk⟩ := h
      refine wpC_drawJ (by kernel_rfl) (fun (x : Bool) ρ => ρ 40 = (Value.bool x) ∧ ρ 5 = (Sl.v r9.1) ∧ ρ 7 = (Sl.v r10.1) ∧ ρ 9 = (Value.bool l14.1) ∧ ρ 10 = (Value.int .i64 l14.2) ∧ ρ 28 = (Value.int .i64 (r9.1.len : Int)) ∧ ρ 29 = (Value.int .i64 l14.2) ∧ True) J17 ?_ ?_
      · clear hk
        unfold tk at h
        generalize w3.drew = w4 at h ⊢
        refine wpD_take (v := (Sl.v r9.1)) 0 (fun _ => True) rfl (by kernel_rfl) (by kernel_rfl) (by kernel_rfl) rfl rfl rfl trivial (fun w _ => (x_move (v := (Sl.v r9.1)) rfl e5)) ?_
        refine wpD_take (v := (Value.int .i64 l14.2)) 1 (fun _ => True) rfl (by kernel_rfl) (by kernel_rfl) (by kernel_rfl) rfl rfl rfl trivial (fun w _ => (x_move (v := (Value.int .i64 l14.2)) rfl e10)) ?_
        obtain ⟨q18, z18, r18, h⟩ := h
        generalize hp18 : z18.add ((l14.2 : Int).toNat * 1) = p18 at h
        refine wpD_take (v := (Value.pointer (some p18))) 2 (fun _ => True) rfl (by kernel_rfl) (by kernel_rfl) (by kernel_rfl) rfl rfl rfl trivial (fun w _ => ((x_indexAddr (s := r9.1) rfl rfl rfl ES_63 q18 r18).trans (by rw [hp18]))) ?_
        obtain ⟨x19, q19, h⟩ := h
        refine wpD_take (v := (Value.int .i64 x19)) 3 (fun w => w.cell? p18 = some (Value.int .i64 x19)) rfl (by kernel_rfl) (by kernel_rfl) (by kernel_rfl) rfl rfl rfl q19 (fun w q19 => (x_load1 rfl rfl SH_3 q19)) ?_
        refine wpD_take (v := (Sl.v r10.1)) 4 (fun _ => True) rfl (by kernel_rfl) (by kernel_rfl) (by kernel_rfl) rfl rfl rfl trivial (fun w _ => (x_move (v := (Sl.v r10.1)) rfl e7)) ?_
        refine wpD_take (v := (Value.int .i64 l14.2)) 5 (fun _ => True) rfl (by kernel_rfl) (by kernel_rfl) (by kernel_rfl) rfl rfl rfl trivial (fun w _ => (x_move (v := (Value.int .i64 l14.2)) rfl e10)) ?_
        obtain ⟨q20, z20, r20, h⟩ := h
        generalize hp20 : z20.add ((l14.2 : Int).toNat * 1) = p20 at h
        refine wpD_take (v := (Value.pointer (some p20))) 6 (fun _ => True) rfl (by kernel_rfl) (by kernel_rfl) (by kernel_rfl) rfl rfl rfl trivial (fun w _ => ((x_indexAddr (s := r10.1) rfl rfl rfl ES_63 q20 r20).trans (by rw [hp20]))) ?_
        obtain ⟨x21, q21, h⟩ := h
        refine wpD_take (v := (Value.int .i64 x21)) 7 (fun w => w.cell? p20 = some (Value.int .i64 x21)) rfl (by kernel_rfl) (by kernel_rfl) (by kernel_rfl) rfl rfl rfl q21 (fun w q21 => (x_load1 rfl rfl SH_3 q21)) ?_
        refine wpD_take (v := (Value.bool (decide (x19 < x21)))) 8 (fun _ => True) rfl (by kernel_rfl) (by kernel_rfl) (by kernel_rfl) rfl rfl rfl trivial (fun w _ => (x_lss rfl rfl rfl)) ?_
        exact wpD_done (by kernel_rfl) ⟨decide (x19 < x21), ⟨rfl, e5, e7, e9, e10, e28, e29, trivial⟩, h⟩
      clear h
      rintro l22 ρ w5 ⟨e40, e5, e7, e9, e10, e28, e29, -⟩ h
      replace h := hk l22 w5 h
      clear hk
      refine wpC_cond (b := l22) e40 (fun hc23 => ?_) (fun hc23 => ?_)
      · replace h := h.1 hc23
        refine wpC_seq ?_
        refine wpC_region ?_
        refine wpR_val (v := (Value.bool false)) (w' := w5) rfl rfl rfl (x_assign (v := (Value.bool false)) rfl rfl) ?_
        refine wpR_nil ?_
        refine wpC_ret ?_
        exact ⟨.inl rfl, fun a ha => ⟨_, results_rep1 rfl ha rfl, false, rfl, h⟩⟩
      · replace h := h.2 hc23
        refine wpC_skip ?_
        obtain ⟨J25, h, hk⟩ := h
        refine wpC_drawJ (by kernel_rfl) (fun (x : Bool) ρ => ρ 9 = (Value.bool x) ∧ ρ 5 = (Sl.v r9.1) ∧ ρ 7 = (Sl.v r10.1) ∧ ρ 28 = (Value.int .i64 (r9.1.len : Int)) ∧ ρ 29 = (Value.int .i64 l14.2) ∧ True) J25 ?_ ?_
        · clear hk
          unfold tk at h
          generalize w5.drew = w6 at h ⊢
          refine wpD_take (v := (Value.bool l14.1)) 0 (fun _ => True) rfl (by kernel_rfl) (by kernel_rfl) (by kernel_rfl) rfl rfl rfl trivial (fun w _ => (x_move (v := (Value.bool l14.1)) rfl e9)) ?_
          refine wpD_take (v := (Value.bool l14.1)) 1 (fun _ => True) rfl (by kernel_rfl) (by kernel_rfl) (by kernel_rfl) rfl rfl rfl trivial (fun w _ => (x_move (v := (Value.bool l14.1)) rfl rfl)) ?_
          rcases Bool.eq_false_or_eq_true (l14.1) with hc26 | hc26
          · replace h := h.1 hc26
            refine wpD_pass 2 rfl (by kernel_rfl) (by kernel_rfl) (by kernel_rfl) (wantN rfl rfl rfl hc26) rfl rfl ?_
            refine wpD_pass 3 rfl (by kernel_rfl) (by kernel_rfl) (by kernel_rfl) (wantN rfl rfl rfl hc26) rfl rfl ?_
            refine wpD_pass 4 rfl (by kernel_rfl) (by kernel_rfl) (by kernel_rfl) (wantN rfl rfl rfl hc26) rfl rfl ?_
            refine wpD_pass 5 rfl (by kernel_rfl) (by kernel_rfl) (by kernel_rfl) (wantN rfl rfl rfl hc26) rfl rfl ?_
            refine wpD_pass 6 rfl (by kernel_rfl) (by kernel_rfl) (by kernel_rfl) (wantN rfl rfl rfl hc26) rfl rfl ?_
            refine wpD_pass 7 rfl (by kernel_rfl) (by kernel_rfl) (by kernel_rfl) (wantN rfl rfl rfl hc26) rfl rfl ?_
            refine wpD_pass 8 rfl (by kernel_rfl) (by kernel_rfl) (by kernel_rfl) (wantN rfl rfl rfl hc26) rfl rfl ?_
            refine wpD_pass 9 rfl (by kernel_rfl) (by kernel_rfl) (by kernel_rfl) (wantN rfl rfl rfl hc26) rfl rfl ?_
            refine wpD_pass 10 rfl (by kernel_rfl) (by kernel_rfl) (by kernel_rfl) (wantN rfl rfl rfl hc26) rfl rfl ?_
            refine wpD_take (v := (Value.bool true)) 11 (fun _ => True) rfl (by kernel_rfl) (by kernel_rfl) (by kernel_rfl) rfl rfl rfl trivial (fun w _ => (x_pickT (v := (Value.bool true)) rfl rfl hc26 rfl)) ?_
            refine wpD_take (v := (Value.bool true)) 12 (fun _ => True) rfl (by kernel_rfl) (by kernel_rfl) (by kernel_rfl) rfl rfl rfl trivial (fun w _ => (x_assign (v := (Value.bool true)) rfl rfl)) ?_
            exact wpD_done (by kernel_rfl) ⟨true, ⟨rfl, e5, e7, e28, e29, trivial⟩, h⟩
          · replace h := h.2 hc26
            refine wpD_take (v := (Sl.v r9.1)) 2 (fun _ => True) rfl (by kernel_rfl) (by kernel_rfl) (by kernel_rfl) (wantG rfl rfl rfl hc26) rfl rfl trivial (fun w _ => (x_move (v := (Sl.v r9.1)) rfl e5)) ?_
            refine wpD_take (v := (Value.int .i64 l14.2)) 3 (fun _ => True) rfl (by kernel_rfl) (by kernel_rfl) (by kernel_rfl) (wantG rfl rfl rfl hc26) rfl rfl trivial (fun w _ => (x_move (v := (Value.int .i64 l14.2)) rfl e10)) ?_
            obtain ⟨q27, z27, r27, h⟩ := h
            generalize hp27 : z27.add ((l14.2 : Int).toNat * 1) = p27 at h
            refine wpD_take (v := (Value.pointer (some p27))) 4 (fun _ => True) rfl (by kernel_rfl) (by kernel_rfl) (by kernel_rfl) (wantG rfl rfl rfl hc26) rfl rfl trivial (fun w _ => ((x_indexAddr (s := r9.1) rfl rfl rfl ES_63 q27 r27).trans (by rw [hp27]))) ?_
            obtain ⟨x28, q28, h⟩ := h
            refine wpD_take (v := (Value.int .i64 x28)) 5 (fun w => w.cell? p27 = some (Value.int .i64 x28)) rfl (by kernel_rfl) (by kernel_rfl) (by kernel_rfl) (wantG rfl rfl rfl hc26) rfl rfl q28 (fun w q28 => (x_load1 rfl rfl SH_3 q28)) ?_
            refine wpD_take (v := (Sl.v r10.1)) 6 (fun _ => True) rfl (by kernel_rfl) (by kernel_rfl) (by kernel_rfl) (wantG rfl rfl rfl hc26) rfl rfl trivial (fun w _ => (x_move (v := (Sl.v r10.1)) rfl e7)) ?_
            refine wpD_take (v := (Value.int .i64 l14.2)) 7 (fun _ => True) rfl (by kernel_rfl) (by kernel_rfl) (by kernel_rfl) (wantG rfl rfl rfl hc26) rfl rfl trivial (fun w _ => (x_move (v := (Value.int .i64 l14.2)) rfl e10)) ?_
            obtain ⟨q29, z29, r29, h⟩ := h
            generalize hp29 : z29.add ((l14.2 : Int).toNat * 1) = p29 at h
            refine wpD_take (v := (Value.pointer (some p29))) 8 (fun _ => True) rfl (by kernel_rfl) (by kernel_rfl) (by kernel_rfl) (wantG rfl rfl rfl hc26) rfl rfl trivial (fun w _ => ((x_indexAddr (s := r10.1) rfl rfl rfl ES_63 q29 r29).trans (by rw [hp29]))) ?_
            obtain ⟨x30, q30, h⟩ := h
            refine wpD_take (v := (Value.int .i64 x30)) 9 (fun w => w.cell? p29 = some (Value.int .i64 x30)) rfl (by kernel_rfl) (by kernel_rfl) (by kernel_rfl) (wantG rfl rfl rfl hc26) rfl rfl q30 (fun w q30 => (x_load1 rfl rfl SH_3 q30)) ?_
            refine wpD_take (v := (Value.bool (decide (x30 < x28)))) 10 (fun _ => True) rfl (by kernel_rfl) (by kernel_rfl) (by kernel_rfl) (wantG rfl rfl rfl hc26) rfl rfl trivial (fun w _ => (x_gtr rfl rfl rfl)) ?_
            refine wpD_take (v := (Value.bool (decide (x30 < x28)))) 11 (fun _ => True) rfl (by kernel_rfl) (by kernel_rfl) (by kernel_rfl) rfl rfl rfl trivial (fun w _ => (x_pickF (v := (Value.bool (decide (x30 < x28)))) rfl rfl hc26 rfl)) ?_
            refine wpD_take (v := (Value.bool (decide (x30 < x28)))) 12 (fun _ => True) rfl (by kernel_rfl) (by kernel_rfl) (by kernel_rfl) rfl rfl rfl trivial (fun w _ => (x_assign (v := (Value.bool (decide (x30 < x28)))) rfl rfl)) ?_
            exact wpD_done (by kernel_rfl) ⟨decide (x30 < x28), ⟨rfl, e5, e7, e28, e29, trivial⟩, h⟩
        clear h
        rintro l31 ρ w7 ⟨e9, e5, e7, e28, e29, -⟩ h
        replace h := hk l31 w7 h
        clear hk
        refine wpC_region ?_
        refine wpR_val (v := (Value.int .i64 (IntKind.i64.wrap (l14.2 + 1)))) (w' := w7) rfl rfl rfl (x_add rfl e29 rfl) ?_
        refine wpR_val (v := (Value.int .i64 (IntKind.i64.wrap (l14.2 + 1)))) (w' := w7) rfl rfl rfl (x_move (v := (Value.int .i64 (IntKind.i64.wrap (l14.2 + 1)))) rfl rfl) ?_
        refine wpR_nil ?_
        exact ⟨(l31, IntKind.i64.wrap (l14.2 + 1)), ⟨e9, rfl, e5, e7, e28, trivial⟩, h⟩
    · replace h := h.2 hc15
      refine wpC_exit ?_
      refine wpC_seq ?_
      refine wpC_cut (fun ρ => ρ 9 = (Value.bool l14.1) ∧ True) ⟨e9, trivial⟩ ?_
      rintro ρ ⟨e9, -⟩
      refine wpC_region ?_
      refine wpR_val (v := (Value.bool l14.1)) (w' := w3) rfl rfl rfl (x_move (v := (Value.bool l14.1)) rfl e9) ?_
      refine wpR_val (v := (Value.bool l14.1)) (w' := w3) rfl rfl rfl (x_assign (v := (Value.bool l14.1)) rfl rfl) ?_
      refine wpR_nil ?_
      refine wpC_ret ?_
      exact ⟨.inl rfl, fun a ha => ⟨_, results_rep1 rfl ha rfl, l14.1, rfl, h⟩⟩


end Go.Proofs.Ytnoahloppffndaa
