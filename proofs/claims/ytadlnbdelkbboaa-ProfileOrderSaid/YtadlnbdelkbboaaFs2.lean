import Derived.Test.YtadlnbdelkbboaaRows
import Derived.Test.YtadlnbdelkbboaaFs1
import Derived.Test.YtadlnbdelkbboaaDecRaw
namespace Go.Proofs.Ytadlnbdelkbboaa
open Go.Dec
set_option maxHeartbeats 400000
set_option maxRecDepth 100000

/-- lingualaw13.ProfileKeeps -/
def F6 (p0_0 : ByteArray) (p0_1 : Int) (p0_2 : Int) (p0_3 : Int) (p0_4 : Bool) (p0_5 : Int) (p0_6 : Bool) (p0_7 : Bool) (p0_8 : Int) (p0_9 : Int) (p0_10 : Int) (p0_11 : Int) (p0_12 : Sl) (p0_13 : Int) (p0_14 : Int) (p0_15 : Int) (p0_16 : Int) (p0_17 : Bool) (p0_18 : Int) (p0_19 : Int) (p0_20 : Int) (p0_21 : Int) (p1_0 : ByteArray) (p1_1 : Int) (p1_2 : Int) (p1_3 : Int) (p1_4 : Bool) (p1_5 : Int) (p1_6 : Bool) (p1_7 : Bool) (p1_8 : Int) (p1_9 : Int) (p1_10 : Int) (p1_11 : Int) (p1_12 : Sl) (p1_13 : Int) (p1_14 : Int) (p1_15 : Int) (p1_16 : Int) (p1_17 : Bool) (p1_18 : Int) (p1_19 : Int) (p1_20 : Int) (p1_21 : Int) (w0 : World) (K : Bool → World → Prop) : Prop :=
  nw 24 (A23 p0_0 p0_1 p0_2 p0_3 p0_4 p0_5 p0_6 p0_7 p0_8 p0_9 p0_10 p0_11 p0_12 p0_13 p0_14 p0_15 p0_16 p0_17 p0_18 p0_19 p0_20 p0_21) w0 fun b1 w1 =>
  nw 24 (A23 p1_0 p1_1 p1_2 p1_3 p1_4 p1_5 p1_6 p1_7 p1_8 p1_9 p1_10 p1_11 p1_12 p1_13 p1_14 p1_15 p1_16 p1_17 p1_18 p1_19 p1_20 p1_21) w1 fun b2 w2 =>
  callC Try.prog 8 #[] (fun (r : Bool) => (Value.bool r)) w2 fun r3 w3 =>
  L23 (Addr.mk b1 0 none) w3 fun x4 x5 x6 x7 x8 x9 x10 x11 x12 x13 x14 x15 x16 x17 x18 x19 x20 x21 x22 x23 x24 x25 =>
  L23 (Addr.mk b2 0 none) w3 fun x26 x27 x28 x29 x30 x31 x32 x33 x34 x35 x36 x37 x38 x39 x40 x41 x42 x43 x44 x45 x46 x47 =>
  L23 (Addr.mk b1 0 none) w3 fun x48 x49 x50 x51 x52 x53 x54 x55 x56 x57 x58 x59 x60 x61 x62 x63 x64 x65 x66 x67 x68 x69 =>
  callC Try.prog 9 #[(V23 x4 x5 x6 x7 x8 x9 x10 x11 x12 x13 x14 x15 x16 x17 x18 x19 x20 x21 x22 x23 x24 x25), (V23 x26 x27 x28 x29 x30 x31 x32 x33 x34 x35 x36 x37 x38 x39 x40 x41 x42 x43 x44 x45 x46 x47), (V23 x48 x49 x50 x51 x52 x53 x54 x55 x56 x57 x58 x59 x60 x61 x62 x63 x64 x65 x66 x67 x68 x69)] (fun (r : Bool) => (Value.bool r)) w3 fun r70 w4 =>
  jn (fun J71 => cnd (!r70)
    (
    J71 true w4
    )
    (
    L23 (Addr.mk b1 0 none) w4 fun x73 x74 x75 x76 x77 x78 x79 x80 x81 x82 x83 x84 x85 x86 x87 x88 x89 x90 x91 x92 x93 x94 =>
    L23 (Addr.mk b2 0 none) w4 fun x95 x96 x97 x98 x99 x100 x101 x102 x103 x104 x105 x106 x107 x108 x109 x110 x111 x112 x113 x114 x115 x116 =>
    L23 (Addr.mk b1 0 none) w4 fun x117 x118 x119 x120 x121 x122 x123 x124 x125 x126 x127 x128 x129 x130 x131 x132 x133 x134 x135 x136 x137 x138 =>
    callC Try.prog 19 #[(V23 x73 x74 x75 x76 x77 x78 x79 x80 x81 x82 x83 x84 x85 x86 x87 x88 x89 x90 x91 x92 x93 x94), (V23 x95 x96 x97 x98 x99 x100 x101 x102 x103 x104 x105 x106 x107 x108 x109 x110 x111 x112 x113 x114 x115 x116), (V23 x117 x118 x119 x120 x121 x122 x123 x124 x125 x126 x127 x128 x129 x130 x131 x132 x133 x134 x135 x136 x137 x138)] (fun (r : Bool) => (Value.bool r)) w4 fun r139 w5 =>
    J71 (!r139) w5
    ))
  fun c140 w6 =>
  jp (fun J141 => cnd (c140)
    (
    J141 true
    )
    (
    ld Sl.v ((Addr.mk b1 0 none).add 12) w6 fun x143 =>
    ld Sl.v ((Addr.mk b2 0 none).add 12) w6 fun x144 =>
    J141 (decide (12 < (IntKind.i64.wrap ((x143.len : Int) + (x144.len : Int)))))
    ))
  fun c145 =>
  cnd (c145)
    (
    K r3 w6
    )
    (
    jn (fun (J148 : Sl → World → Prop) => tk w6 fun w7 =>
      L23 (Addr.mk b1 0 none) w7 fun x149 x150 x151 x152 x153 x154 x155 x156 x157 x158 x159 x160 x161 x162 x163 x164 x165 x166 x167 x168 x169 x170 =>
      L23 (Addr.mk b2 0 none) w7 fun x171 x172 x173 x174 x175 x176 x177 x178 x179 x180 x181 x182 x183 x184 x185 x186 x187 x188 x189 x190 x191 x192 =>
      L23 (Addr.mk b1 0 none) w7 fun x193 x194 x195 x196 x197 x198 x199 x200 x201 x202 x203 x204 x205 x206 x207 x208 x209 x210 x211 x212 x213 x214 =>
      L23 (Addr.mk b2 0 none) w7 fun x215 x216 x217 x218 x219 x220 x221 x222 x223 x224 x225 x226 x227 x228 x229 x230 x231 x232 x233 x234 x235 x236 =>
      callC Try.prog 15 #[(V23 x149 x150 x151 x152 x153 x154 x155 x156 x157 x158 x159 x160 x161 x162 x163 x164 x165 x166 x167 x168 x169 x170), (V23 x171 x172 x173 x174 x175 x176 x177 x178 x179 x180 x181 x182 x183 x184 x185 x186 x187 x188 x189 x190 x191 x192)] E23 w7 fun r237 w8 =>
      (C23 (Addr.mk b2 0 none) x215 x216 x217 x218 x219 x220 x221 x222 x223 x224 x225 x226 x227 x228 x229 x230 x231 x232 x233 x234 x235 x236 w8) ∧
      (C23 (Addr.mk b1 0 none) x193 x194 x195 x196 x197 x198 x199 x200 x201 x202 x203 x204 x205 x206 x207 x208 x209 x210 x211 x212 x213 x214 w8) ∧
      callC Try.prog 17 #[(V23 x193 x194 x195 x196 x197 x198 x199 x200 x201 x202 x203 x204 x205 x206 x207 x208 x209 x210 x211 x212 x213 x214), (V23 x215 x216 x217 x218 x219 x220 x221 x222 x223 x224 x225 x226 x227 x228 x229 x230 x231 x232 x233 x234 x235 x236)] E23 w8 fun r238 w9 =>
      nw 24 #[(Value.string r237.1), (Value.int .i64 r237.2.1), (Value.int .i64 r237.2.2.1), (Value.int .i64 r237.2.2.2.1), (Value.bool r237.2.2.2.2.1), (Value.int .i64 r237.2.2.2.2.2.1), (Value.bool r237.2.2.2.2.2.2.1), (Value.bool r237.2.2.2.2.2.2.2.1), (Value.int .i64 r237.2.2.2.2.2.2.2.2.1), (Value.int .i64 r237.2.2.2.2.2.2.2.2.2.1), (Value.int .i64 r237.2.2.2.2.2.2.2.2.2.2.1), (Value.int .i64 r237.2.2.2.2.2.2.2.2.2.2.2.1), (Sl.v r237.2.2.2.2.2.2.2.2.2.2.2.2.1), (Value.int .i64 r237.2.2.2.2.2.2.2.2.2.2.2.2.2.1), (Value.int .i64 r237.2.2.2.2.2.2.2.2.2.2.2.2.2.2.1), (Value.int .i64 r237.2.2.2.2.2.2.2.2.2.2.2.2.2.2.2.1), (Value.int .i64 r237.2.2.2.2.2.2.2.2.2.2.2.2.2.2.2.2.1), (Value.bool r237.2.2.2.2.2.2.2.2.2.2.2.2.2.2.2.2.2.1), (Value.int .i64 r237.2.2.2.2.2.2.2.2.2.2.2.2.2.2.2.2.2.2.1), (Value.int .i64 r237.2.2.2.2.2.2.2.2.2.2.2.2.2.2.2.2.2.2.2.1), (Value.int .i64 r237.2.2.2.2.2.2.2.2.2.2.2.2.2.2.2.2.2.2.2.2.1), (Value.int .i64 r237.2.2.2.2.2.2.2.2.2.2.2.2.2.2.2.2.2.2.2.2.2), (Value.string r238.1), (Value.int .i64 r238.2.1), (Value.int .i64 r238.2.2.1), (Value.int .i64 r238.2.2.2.1), (Value.bool r238.2.2.2.2.1), (Value.int .i64 r238.2.2.2.2.2.1), (Value.bool r238.2.2.2.2.2.2.1), (Value.bool r238.2.2.2.2.2.2.2.1), (Value.int .i64 r238.2.2.2.2.2.2.2.2.1), (Value.int .i64 r238.2.2.2.2.2.2.2.2.2.1), (Value.int .i64 r238.2.2.2.2.2.2.2.2.2.2.1), (Value.int .i64 r238.2.2.2.2.2.2.2.2.2.2.2.1), (Sl.v r238.2.2.2.2.2.2.2.2.2.2.2.2.1), (Value.int .i64 r238.2.2.2.2.2.2.2.2.2.2.2.2.2.1), (Value.int .i64 r238.2.2.2.2.2.2.2.2.2.2.2.2.2.2.1), (Value.int .i64 r238.2.2.2.2.2.2.2.2.2.2.2.2.2.2.2.1), (Value.int .i64 r238.2.2.2.2.2.2.2.2.2.2.2.2.2.2.2.2.1), (Value.bool r238.2.2.2.2.2.2.2.2.2.2.2.2.2.2.2.2.2.1), (Value.int .i64 r238.2.2.2.2.2.2.2.2.2.2.2.2.2.2.2.2.2.2.1), (Value.int .i64 r238.2.2.2.2.2.2.2.2.2.2.2.2.2.2.2.2.2.2.2.1), (Value.int .i64 r238.2.2.2.2.2.2.2.2.2.2.2.2.2.2.2.2.2.2.2.2.1), (Value.int .i64 r238.2.2.2.2.2.2.2.2.2.2.2.2.2.2.2.2.2.2.2.2.2)] w9 fun b239 w10 =>
      J148 (⟨some ⟨b239, 0, none⟩, 2, 2⟩ : Sl) w10
    )
    fun l240 w11 =>
    lp (fun (next241 : Int → World → Prop) l241 w12 =>
      cnd (decide (l241 < (l240.len : Int)))
        (
        ix l240 l241 22 fun p243 =>
        L23 p243 w12 fun x244 x245 x246 x247 x248 x249 x250 x251 x252 x253 x254 x255 x256 x257 x258 x259 x260 x261 x262 x263 x264 x265 =>
        nw 24 (A23 (ByteArray.mk #[]) 0 0 0 false 0 false false 0 0 0 0 Sl.nil 0 0 0 0 false 0 0 0 0) w12 fun b266 w13 =>
        st (Addr.mk b266 0 none) (S23 x244 x245 x246 x247 x248 x249 x250 x251 x252 x253 x254 x255 x256 x257 x258 x259 x260 x261 x262 x263 x264 x265) w13 fun w14 =>
        ld Value.string ((Addr.mk b266 0 none).add 0) w14 fun x268 =>
        ld Value.string ((Addr.mk b1 0 none).add 0) w14 fun x269 =>
        jp (fun J270 => cnd (beqS x268 x269)
          (
          ld (Value.int .i64) ((Addr.mk b266 0 none).add 13) w14 fun x272 =>
          ld (Value.int .i64) ((Addr.mk b1 0 none).add 13) w14 fun x273 =>
          J270 (decide (x272 = x273))
          )
          (
          J270 false
          ))
        fun c274 =>
        jp (fun J275 => cnd (c274)
          (
          ld (Value.int .i64) ((Addr.mk b266 0 none).add 14) w14 fun x277 =>
          ld (Value.int .i64) ((Addr.mk b1 0 none).add 14) w14 fun x278 =>
          J275 (decide (x277 = x278))
          )
          (
          J275 false
          ))
        fun c279 =>
        jp (fun J280 => cnd (c279)
          (
          ld (Value.int .i64) ((Addr.mk b266 0 none).add 15) w14 fun x282 =>
          ld (Value.int .i64) ((Addr.mk b1 0 none).add 15) w14 fun x283 =>
          J280 (decide (x282 = x283))
          )
          (
          J280 false
          ))
        fun c284 =>
        jp (fun J285 => cnd (c284)
          (
          ld Value.bool ((Addr.mk b266 0 none).add 17) w14 fun x287 =>
          ld Value.bool ((Addr.mk b1 0 none).add 17) w14 fun x288 =>
          J285 (x287 == x288)
          )
          (
          J285 false
          ))
        fun c289 =>
        jp (fun J290 => cnd (c289)
          (
          ld (Value.int .i64) ((Addr.mk b266 0 none).add 18) w14 fun x292 =>
          ld (Value.int .i64) ((Addr.mk b1 0 none).add 18) w14 fun x293 =>
          J290 (decide (x292 = x293))
          )
          (
          J290 false
          ))
        fun c294 =>
        jp (fun J295 => cnd (c294)
          (
          ld (Value.int .i64) ((Addr.mk b266 0 none).add 19) w14 fun x297 =>
          ld (Value.int .i64) ((Addr.mk b1 0 none).add 19) w14 fun x298 =>
          J295 (decide (x297 = x298))
          )
          (
          J295 false
          ))
        fun c299 =>
        jp (fun J300 => cnd (c299)
          (
          ld (Value.int .i64) ((Addr.mk b266 0 none).add 20) w14 fun x302 =>
          ld (Value.int .i64) ((Addr.mk b1 0 none).add 20) w14 fun x303 =>
          J300 (decide (x302 = x303))
          )
          (
          J300 false
          ))
        fun c304 =>
        jp (fun J305 => cnd (c304)
          (
          ld (Value.int .i64) ((Addr.mk b266 0 none).add 21) w14 fun x307 =>
          ld (Value.int .i64) ((Addr.mk b1 0 none).add 21) w14 fun x308 =>
          J305 (decide (x307 = x308))
          )
          (
          J305 false
          ))
        fun c309 =>
        L23 (Addr.mk b266 0 none) w14 fun x310 x311 x312 x313 x314 x315 x316 x317 x318 x319 x320 x321 x322 x323 x324 x325 x326 x327 x328 x329 x330 x331 =>
        callC Try.prog 10 #[(V23 x310 x311 x312 x313 x314 x315 x316 x317 x318 x319 x320 x321 x322 x323 x324 x325 x326 x327 x328 x329 x330 x331)] (fun (r : Int) => (Value.int .i64 r)) w14 fun r332 w15 =>
        cnd ((!decide (r332 = 0)) || (!c309))
          (
          K false w15
          )
          (
          next241 (IntKind.i64.wrap (l241 + 1)) w15
          )
        )
        (
        K r3 w12
        )
    ) 0 w11
    )
set_option maxRecDepth 100000 in
theorem D6 (p0_0 : ByteArray) (p0_1 : Int) (p0_2 : Int) (p0_3 : Int) (p0_4 : Bool) (p0_5 : Int) (p0_6 : Bool) (p0_7 : Bool) (p0_8 : Int) (p0_9 : Int) (p0_10 : Int) (p0_11 : Int) (p0_12 : Sl) (p0_13 : Int) (p0_14 : Int) (p0_15 : Int) (p0_16 : Int) (p0_17 : Bool) (p0_18 : Int) (p0_19 : Int) (p0_20 : Int) (p0_21 : Int) (p1_0 : ByteArray) (p1_1 : Int) (p1_2 : Int) (p1_3 : Int) (p1_4 : Bool) (p1_5 : Int) (p1_6 : Bool) (p1_7 : Bool) (p1_8 : Int) (p1_9 : Int) (p1_10 : Int) (p1_11 : Int) (p1_12 : Sl) (p1_13 : Int) (p1_14 : Int) (p1_15 : Int) (p1_16 : Int) (p1_17 : Bool) (p1_18 : Int) (p1_19 : Int) (p1_20 : Int) (p1_21 : Int) (w0 : World) (K : Bool → World → Prop) (h : F6 p0_0 p0_1 p0_2 p0_3 p0_4 p0_5 p0_6 p0_7 p0_8 p0_9 p0_10 p0_11 p0_12 p0_13 p0_14 p0_15 p0_16 p0_17 p0_18 p0_19 p0_20 p0_21 p1_0 p1_1 p1_2 p1_3 p1_4 p1_5 p1_6 p1_7 p1_8 p1_9 p1_10 p1_11 p1_12 p1_13 p1_14 p1_15 p1_16 p1_17 p1_18 p1_19 p1_20 p1_21 w0 K) : callC Try.prog 6 #[(V23 p0_0 p0_1 p0_2 p0_3 p0_4 p0_5 p0_6 p0_7 p0_8 p0_9 p0_10 p0_11 p0_12 p0_13 p0_14 p0_15 p0_16 p0_17 p0_18 p0_19 p0_20 p0_21), (V23 p1_0 p1_1 p1_2 p1_3 p1_4 p1_5 p1_6 p1_7 p1_8 p1_9 p1_10 p1_11 p1_12 p1_13 p1_14 p1_15 p1_16 p1_17 p1_18 p1_19 p1_20 p1_21)] (fun (r : Bool) => (Value.bool r)) w0 K := by
  unfold F6 at h
  refine calls_of_wpC Try.func6 rfl 120 rfl (by simp) ?_
  intro ρ hρ
  have e0 : ρ 0 = (V23 p0_0 p0_1 p0_2 p0_3 p0_4 p0_5 p0_6 p0_7 p0_8 p0_9 p0_10 p0_11 p0_12 p0_13 p0_14 p0_15 p0_16 p0_17 p0_18 p0_19 p0_20 p0_21) := hρ 0
  have e1 : ρ 1 = (V23 p1_0 p1_1 p1_2 p1_3 p1_4 p1_5 p1_6 p1_7 p1_8 p1_9 p1_10 p1_11 p1_12 p1_13 p1_14 p1_15 p1_16 p1_17 p1_18 p1_19 p1_20 p1_21) := hρ 1
  clear hρ
  refine wpC_seq ?_
  refine wpC_region ?_
  obtain ⟨b1, hb1⟩ : ∃ u, u = w0.heap.size := ⟨_, rfl⟩
  obtain ⟨w1, hw1⟩ : ∃ u, u = w0.alloc (.cells (A23 p0_0 p0_1 p0_2 p0_3 p0_4 p0_5 p0_6 p0_7 p0_8 p0_9 p0_10 p0_11 p0_12 p0_13 p0_14 p0_15 p0_16 p0_17 p0_18 p0_19 p0_20 p0_21) 24) := ⟨_, rfl⟩
  replace h := h b1 w1 hb1 hw1
  refine wpR_val (v := (Value.pointer (some (Addr.mk b1 0 none)))) (w' := w1) rfl rfl rfl ((x_box (v := (V23 p0_0 p0_1 p0_2 p0_3 p0_4 p0_5 p0_6 p0_7 p0_8 p0_9 p0_10 p0_11 p0_12 p0_13 p0_14 p0_15 p0_16 p0_17 p0_18 p0_19 p0_20 p0_21)) rfl e0).trans (by rw [hb1, hw1]; rfl)) ?_
  obtain ⟨b2, hb2⟩ : ∃ u, u = w1.heap.size := ⟨_, rfl⟩
  obtain ⟨w2, hw2⟩ : ∃ u, u = w1.alloc (.cells (A23 p1_0 p1_1 p1_2 p1_3 p1_4 p1_5 p1_6 p1_7 p1_8 p1_9 p1_10 p1_11 p1_12 p1_13 p1_14 p1_15 p1_16 p1_17 p1_18 p1_19 p1_20 p1_21) 24) := ⟨_, rfl⟩
  replace h := h b2 w2 hb2 hw2
  refine wpR_val (v := (Value.pointer (some (Addr.mk b2 0 none)))) (w' := w2) rfl rfl rfl ((x_box (v := (V23 p1_0 p1_1 p1_2 p1_3 p1_4 p1_5 p1_6 p1_7 p1_8 p1_9 p1_10 p1_11 p1_12 p1_13 p1_14 p1_15 p1_16 p1_17 p1_18 p1_19 p1_20 p1_21)) rfl e1).trans (by rw [hb2, hw2]; rfl)) ?_
  refine wpR_val (v := (Value.bool false)) (w' := w2) rfl rfl rfl (x_assign (v := (Value.bool false)) rfl rfl) ?_
  refine wpR_nil ?_
  refine wpC_seq ?_
  refine wpC_cut (fun ρ => ρ 2 = (Value.pointer (some (Addr.mk b1 0 none))) ∧ ρ 3 = (Value.pointer (some (Addr.mk b2 0 none))) ∧ True) ⟨rfl, rfl, trivial⟩ ?_
  rintro ρ ⟨e2, e3, -⟩
  refine wpC_region ?_
  refine wpR_enter rfl rfl rfl (x_call (vs := []) rfl rfl mapl_nil Try.func8 NN_8 NB_8) (Calls.mono h ?_)
  rintro _ w3 ⟨r3, rfl, h⟩
  refine ⟨_, rfl, ?_⟩
  refine wpR_val (v := (Value.bool r3)) (w' := w3) rfl rfl rfl (x_assign (v := (Value.bool r3)) rfl rfl) ?_
  refine wpR_nil ?_
  refine wpC_seq ?_
  refine wpC_seq ?_
  refine wpC_cut (fun ρ => ρ 2 = (Value.pointer (some (Addr.mk b1 0 none))) ∧ ρ 3 = (Value.pointer (some (Addr.mk b2 0 none))) ∧ ρ 5 = (Value.bool r3) ∧ True) ⟨e2, e3, rfl, trivial⟩ ?_
  rintro ρ ⟨e2, e3, e5, -⟩
  refine wpC_region ?_
  obtain ⟨x4, q4, x5, q5, x6, q6, x7, q7, x8, q8, x9, q9, x10, q10, x11, q11, x12, q12, x13, q13, x14, q14, x15, q15, x16, q16, x17, q17, x18, q18, x19, q19, x20, q20, x21, q21, x22, q22, x23, q23, x24, q24, x25, q25, h⟩ := h
  refine wpR_val (v := (V23 x4 x5 x6 x7 x8 x9 x10 x11 x12 x13 x14 x15 x16 x17 x18 x19 x20 x21 x22 x23 x24 x25)) (w' := w3) rfl rfl rfl (x_loadN (S23 x4 x5 x6 x7 x8 x9 x10 x11 x12 x13 x14 x15 x16 x17 x18 x19 x20 x21 x22 x23 x24 x25) rfl e2 SH_24 (K23 ⟨q4, q5, q6, q7, q8, q9, q10, q11, q12, q13, q14, q15, q16, q17, q18, q19, q20, q21, q22, q23, q24, q25⟩)) ?_
  obtain ⟨x26, q26, x27, q27, x28, q28, x29, q29, x30, q30, x31, q31, x32, q32, x33, q33, x34, q34, x35, q35, x36, q36, x37, q37, x38, q38, x39, q39, x40, q40, x41, q41, x42, q42, x43, q43, x44, q44, x45, q45, x46, q46, x47, q47, h⟩ := h
  refine wpR_val (v := (V23 x26 x27 x28 x29 x30 x31 x32 x33 x34 x35 x36 x37 x38 x39 x40 x41 x42 x43 x44 x45 x46 x47)) (w' := w3) rfl rfl rfl (x_loadN (S23 x26 x27 x28 x29 x30 x31 x32 x33 x34 x35 x36 x37 x38 x39 x40 x41 x42 x43 x44 x45 x46 x47) rfl e3 SH_24 (K23 ⟨q26, q27, q28, q29, q30, q31, q32, q33, q34, q35, q36, q37, q38, q39, q40, q41, q42, q43, q44, q45, q46, q47⟩)) ?_
  obtain ⟨x48, q48, x49, q49, x50, q50, x51, q51, x52, q52, x53, q53, x54, q54, x55, q55, x56, q56, x57, q57, x58, q58, x59, q59, x60, q60, x61, q61, x62, q62, x63, q63, x64, q64, x65, q65, x66, q66, x67, q67, x68, q68, x69, q69, h⟩ := h
  refine wpR_val (v := (V23 x48 x49 x50 x51 x52 x53 x54 x55 x56 x57 x58 x59 x60 x61 x62 x63 x64 x65 x66 x67 x68 x69)) (w' := w3) rfl rfl rfl (x_loadN (S23 x48 x49 x50 x51 x52 x53 x54 x55 x56 x57 x58 x59 x60 x61 x62 x63 x64 x65 x66 x67 x68 x69) rfl e2 SH_24 (K23 ⟨q48, q49, q50, q51, q52, q53, q54, q55, q56, q57, q58, q59, q60, q61, q62, q63, q64, q65, q66, q67, q68, q69⟩)) ?_
  refine wpR_enter rfl rfl rfl (x_call (vs := [(V23 x4 x5 x6 x7 x8 x9 x10 x11 x12 x13 x14 x15 x16 x17 x18 x19 x20 x21 x22 x23 x24 x25), (V23 x26 x27 x28 x29 x30 x31 x32 x33 x34 x35 x36 x37 x38 x39 x40 x41 x42 x43 x44 x45 x46 x47), (V23 x48 x49 x50 x51 x52 x53 x54 x55 x56 x57 x58 x59 x60 x61 x62 x63 x64 x65 x66 x67 x68 x69)]) rfl rfl (mapl_cons rfl (mapl_cons rfl (mapl_cons rfl mapl_nil))) Try.func9 NN_9 NB_9) (Calls.mono h ?_)
  rintro _ w4 ⟨r70, rfl, h⟩
  refine ⟨_, rfl, ?_⟩
  refine wpR_val (v := (Value.bool (!r70))) (w' := w4) rfl rfl rfl (x_not rfl rfl) ?_
  refine wpR_val (v := (Value.bool (!r70))) (w' := w4) rfl rfl rfl (x_move (v := (Value.bool (!r70))) rfl rfl) ?_
  obtain ⟨J71, h, hk⟩ := h
  refine wpR_joinJ 6 (fun x ρ => ρ 22 = Value.bool x ∧ ρ 2 = (Value.pointer (some (Addr.mk b1 0 none))) ∧ ρ 3 = (Value.pointer (some (Addr.mk b2 0 none))) ∧ ρ 5 = (Value.bool r3) ∧ True) (J71) ?_ ?_
  · clear hk
    rcases Bool.eq_false_or_eq_true (!r70) with hc72 | hc72
    · replace h := h.1 hc72
      refine wpR_pass (wantN rfl rfl rfl hc72) rfl rfl ?_
      refine wpR_pass (wantN rfl rfl rfl hc72) rfl rfl ?_
      refine wpR_pass (wantN rfl rfl rfl hc72) rfl rfl ?_
      refine wpR_pass (wantN rfl rfl rfl hc72) rfl rfl ?_
      refine wpR_pass (wantN rfl rfl rfl hc72) rfl rfl ?_
      refine wpR_val (v := (Value.bool true)) (w' := w4) rfl rfl rfl (x_pickT (v := (Value.bool true)) rfl rfl hc72 rfl) ?_
      refine wpR_nil ?_
      exact ⟨true, ⟨rfl, e2, e3, e5, trivial⟩, h⟩
    · replace h := h.2 hc72
      obtain ⟨x73, q73, x74, q74, x75, q75, x76, q76, x77, q77, x78, q78, x79, q79, x80, q80, x81, q81, x82, q82, x83, q83, x84, q84, x85, q85, x86, q86, x87, q87, x88, q88, x89, q89, x90, q90, x91, q91, x92, q92, x93, q93, x94, q94, h⟩ := h
      refine wpR_val (v := (V23 x73 x74 x75 x76 x77 x78 x79 x80 x81 x82 x83 x84 x85 x86 x87 x88 x89 x90 x91 x92 x93 x94)) (w' := w4) (wantG rfl rfl rfl hc72) rfl rfl (x_loadN (S23 x73 x74 x75 x76 x77 x78 x79 x80 x81 x82 x83 x84 x85 x86 x87 x88 x89 x90 x91 x92 x93 x94) rfl e2 SH_24 (K23 ⟨q73, q74, q75, q76, q77, q78, q79, q80, q81, q82, q83, q84, q85, q86, q87, q88, q89, q90, q91, q92, q93, q94⟩)) ?_
      obtain ⟨x95, q95, x96, q96, x97, q97, x98, q98, x99, q99, x100, q100, x101, q101, x102, q102, x103, q103, x104, q104, x105, q105, x106, q106, x107, q107, x108, q108, x109, q109, x110, q110, x111, q111, x112, q112, x113, q113, x114, q114, x115, q115, x116, q116, h⟩ := h
      refine wpR_val (v := (V23 x95 x96 x97 x98 x99 x100 x101 x102 x103 x104 x105 x106 x107 x108 x109 x110 x111 x112 x113 x114 x115 x116)) (w' := w4) (wantG rfl rfl rfl hc72) rfl rfl (x_loadN (S23 x95 x96 x97 x98 x99 x100 x101 x102 x103 x104 x105 x106 x107 x108 x109 x110 x111 x112 x113 x114 x115 x116) rfl e3 SH_24 (K23 ⟨q95, q96, q97, q98, q99, q100, q101, q102, q103, q104, q105, q106, q107, q108, q109, q110, q111, q112, q113, q114, q115, q116⟩)) ?_
      obtain ⟨x117, q117, x118, q118, x119, q119, x120, q120, x121, q121, x122, q122, x123, q123, x124, q124, x125, q125, x126, q126, x127, q127, x128, q128, x129, q129, x130, q130, x131, q131, x132, q132, x133, q133, x134, q134, x135, q135, x136, q136, x137, q137, x138, q138, h⟩ := h
      refine wpR_val (v := (V23 x117 x118 x119 x120 x121 x122 x123 x124 x125 x126 x127 x128 x129 x130 x131 x132 x133 x134 x135 x136 x137 x138)) (w' := w4) (wantG rfl rfl rfl hc72) rfl rfl (x_loadN (S23 x117 x118 x119 x120 x121 x122 x123 x124 x125 x126 x127 x128 x129 x130 x131 x132 x133 x134 x135 x136 x137 x138) rfl e2 SH_24 (K23 ⟨q117, q118, q119, q120, q121, q122, q123, q124, q125, q126, q127, q128, q129, q130, q131, q132, q133, q134, q135, q136, q137, q138⟩)) ?_
      refine wpR_enter (wantG rfl rfl rfl hc72) rfl rfl (x_call (vs := [(V23 x73 x74 x75 x76 x77 x78 x79 x80 x81 x82 x83 x84 x85 x86 x87 x88 x89 x90 x91 x92 x93 x94), (V23 x95 x96 x97 x98 x99 x100 x101 x102 x103 x104 x105 x106 x107 x108 x109 x110 x111 x112 x113 x114 x115 x116), (V23 x117 x118 x119 x120 x121 x122 x123 x124 x125 x126 x127 x128 x129 x130 x131 x132 x133 x134 x135 x136 x137 x138)]) rfl rfl (mapl_cons rfl (mapl_cons rfl (mapl_cons rfl mapl_nil))) Try.func19 NN_19 NB_19) (Calls.mono h ?_)
      rintro _ w5 ⟨r139, rfl, h⟩
      refine ⟨_, rfl, ?_⟩
      refine wpR_val (v := (Value.bool (!r139))) (w' := w5) (wantG rfl rfl rfl hc72) rfl rfl (x_not rfl rfl) ?_
      refine wpR_val (v := (Value.bool (!r139))) (w' := w5) rfl rfl rfl (x_pickF (v := (Value.bool (!r139))) rfl rfl hc72 rfl) ?_
      refine wpR_nil ?_
      exact ⟨!r139, ⟨rfl, e2, e3, e5, trivial⟩, h⟩
  clear h
  rintro c140 ρ w6 ⟨e22, e2, e3, e5, -⟩ h
  replace h := hk c140 w6 h
  clear hk
  refine wpR_val (v := (Value.bool c140)) (w' := w6) rfl rfl rfl (x_move (v := (Value.bool c140)) rfl e22) ?_
  obtain ⟨J141, h, hk⟩ := h
  refine wpR_joinJ 9 (fun x ρ => ρ 32 = Value.bool x ∧ ρ 2 = (Value.pointer (some (Addr.mk b1 0 none))) ∧ ρ 3 = (Value.pointer (some (Addr.mk b2 0 none))) ∧ ρ 5 = (Value.bool r3) ∧ True) (fun x w => J141 x ∧ w6 = w) ?_ ?_
  · clear hk
    rcases Bool.eq_false_or_eq_true (c140) with hc142 | hc142
    · replace h := h.1 hc142
      refine wpR_pass (wantN rfl rfl rfl hc142) rfl rfl ?_
      refine wpR_pass (wantN rfl rfl rfl hc142) rfl rfl ?_
      refine wpR_pass (wantN rfl rfl rfl hc142) rfl rfl ?_
      refine wpR_pass (wantN rfl rfl rfl hc142) rfl rfl ?_
      refine wpR_pass (wantN rfl rfl rfl hc142) rfl rfl ?_
      refine wpR_pass (wantN rfl rfl rfl hc142) rfl rfl ?_
      refine wpR_pass (wantN rfl rfl rfl hc142) rfl rfl ?_
      refine wpR_pass (wantN rfl rfl rfl hc142) rfl rfl ?_
      refine wpR_val (v := (Value.bool true)) (w' := w6) rfl rfl rfl (x_pickT (v := (Value.bool true)) rfl rfl hc142 rfl) ?_
      refine wpR_nil ?_
      exact ⟨true, ⟨rfl, e2, e3, e5, trivial⟩, h, rfl⟩
    · replace h := h.2 hc142
      refine wpR_val (v := (Value.pointer (some ((Addr.mk b1 0 none).add 12)))) (w' := w6) (wantG rfl rfl rfl hc142) rfl rfl (x_fieldAddr rfl e2 FA_24_12) ?_
      obtain ⟨x143, q143, h⟩ := h
      refine wpR_val (v := (Sl.v x143)) (w' := w6) (wantG rfl rfl rfl hc142) rfl rfl (x_load1 rfl rfl SH_22 q143) ?_
      refine wpR_val (v := (Value.int .i64 (x143.len : Int))) (w' := w6) (wantG rfl rfl rfl hc142) rfl rfl (x_lenS (s := x143) rfl rfl isSliceT_22) ?_
      refine wpR_val (v := (Value.pointer (some ((Addr.mk b2 0 none).add 12)))) (w' := w6) (wantG rfl rfl rfl hc142) rfl rfl (x_fieldAddr rfl e3 FA_24_12) ?_
      obtain ⟨x144, q144, h⟩ := h
      refine wpR_val (v := (Sl.v x144)) (w' := w6) (wantG rfl rfl rfl hc142) rfl rfl (x_load1 rfl rfl SH_22 q144) ?_
      refine wpR_val (v := (Value.int .i64 (x144.len : Int))) (w' := w6) (wantG rfl rfl rfl hc142) rfl rfl (x_lenS (s := x144) rfl rfl isSliceT_22) ?_
      refine wpR_val (v := (Value.int .i64 (IntKind.i64.wrap ((x143.len : Int) + (x144.len : Int))))) (w' := w6) (wantG rfl rfl rfl hc142) rfl rfl (x_add rfl rfl rfl) ?_
      refine wpR_val (v := (Value.bool (decide (12 < (IntKind.i64.wrap ((x143.len : Int) + (x144.len : Int))))))) (w' := w6) (wantG rfl rfl rfl hc142) rfl rfl (x_gtr rfl rfl rfl) ?_
      refine wpR_val (v := (Value.bool (decide (12 < (IntKind.i64.wrap ((x143.len : Int) + (x144.len : Int))))))) (w' := w6) rfl rfl rfl (x_pickF (v := (Value.bool (decide (12 < (IntKind.i64.wrap ((x143.len : Int) + (x144.len : Int))))))) rfl rfl hc142 rfl) ?_
      refine wpR_nil ?_
      exact ⟨decide (12 < (IntKind.i64.wrap ((x143.len : Int) + (x144.len : Int)))), ⟨rfl, e2, e3, e5, trivial⟩, h, rfl⟩
  clear h
  rintro c145 ρ wj ⟨e32, e2, e3, e5, -⟩ ⟨h, rfl⟩
  replace h := hk c145 h
  clear hk
  refine wpR_nil ?_
  refine wpC_cond (b := c145) e32 (fun hc146 => ?_) (fun hc146 => ?_)
  · replace h := h.1 hc146
    refine wpC_seq ?_
    refine wpC_region ?_
    refine wpR_val (v := (Value.bool r3)) (w' := w6) rfl rfl rfl (x_move (v := (Value.bool r3)) rfl e5) ?_
    refine wpR_val (v := (Value.bool r3)) (w' := w6) rfl rfl rfl (x_assign (v := (Value.bool r3)) rfl rfl) ?_
    refine wpR_nil ?_
    refine wpC_ret ?_
    exact ⟨.inl rfl, fun a ha => ⟨_, results_rep1 rfl ha rfl, r3, rfl, h⟩⟩
  · replace h := h.2 hc146
    refine wpC_skip ?_
    refine wpC_seq ?_
    obtain ⟨J148, h, hk⟩ := h
    refine wpC_drawJ (by kernel_rfl) (fun (x : Sl) ρ => ρ 6 = (Sl.v x) ∧ ρ 2 = (Value.pointer (some (Addr.mk b1 0 none))) ∧ ρ 5 = (Value.bool r3) ∧ True) J148 ?_ ?_
    · clear hk
      unfold tk at h
      generalize w6.drew = w7 at h ⊢
      obtain ⟨x149, q149, x150, q150, x151, q151, x152, q152, x153, q153, x154, q154, x155, q155, x156, q156, x157, q157, x158, q158, x159, q159, x160, q160, x161, q161, x162, q162, x163, q163, x164, q164, x165, q165, x166, q166, x167, q167, x168, q168, x169, q169, x170, q170, h⟩ := h
      refine wpD_take (v := (V23 x149 x150 x151 x152 x153 x154 x155 x156 x157 x158 x159 x160 x161 x162 x163 x164 x165 x166 x167 x168 x169 x170)) 0 (fun w => C23 (Addr.mk b1 0 none) x149 x150 x151 x152 x153 x154 x155 x156 x157 x158 x159 x160 x161 x162 x163 x164 x165 x166 x167 x168 x169 x170 w) rfl (by kernel_rfl) (by kernel_rfl) (by kernel_rfl) rfl rfl rfl ⟨q149, q150, q151, q152, q153, q154, q155, q156, q157, q158, q159, q160, q161, q162, q163, q164, q165, q166, q167, q168, q169, q170⟩ (fun w q => (x_loadN (S23 x149 x150 x151 x152 x153 x154 x155 x156 x157 x158 x159 x160 x161 x162 x163 x164 x165 x166 x167 x168 x169 x170) rfl e2 SH_24 (K23 q))) ?_
      obtain ⟨x171, q171, x172, q172, x173, q173, x174, q174, x175, q175, x176, q176, x177, q177, x178, q178, x179, q179, x180, q180, x181, q181, x182, q182, x183, q183, x184, q184, x185, q185, x186, q186, x187, q187, x188, q188, x189, q189, x190, q190, x191, q191, x192, q192, h⟩ := h
      refine wpD_take (v := (V23 x171 x172 x173 x174 x175 x176 x177 x178 x179 x180 x181 x182 x183 x184 x185 x186 x187 x188 x189 x190 x191 x192)) 1 (fun w => C23 (Addr.mk b2 0 none) x171 x172 x173 x174 x175 x176 x177 x178 x179 x180 x181 x182 x183 x184 x185 x186 x187 x188 x189 x190 x191 x192 w) rfl (by kernel_rfl) (by kernel_rfl) (by kernel_rfl) rfl rfl rfl ⟨q171, q172, q173, q174, q175, q176, q177, q178, q179, q180, q181, q182, q183, q184, q185, q186, q187, q188, q189, q190, q191, q192⟩ (fun w q => (x_loadN (S23 x171 x172 x173 x174 x175 x176 x177 x178 x179 x180 x181 x182 x183 x184 x185 x186 x187 x188 x189 x190 x191 x192) rfl e3 SH_24 (K23 q))) ?_
      obtain ⟨x193, q193, x194, q194, x195, q195, x196, q196, x197, q197, x198, q198, x199, q199, x200, q200, x201, q201, x202, q202, x203, q203, x204, q204, x205, q205, x206, q206, x207, q207, x208, q208, x209, q209, x210, q210, x211, q211, x212, q212, x213, q213, x214, q214, h⟩ := h
      refine wpD_take (v := (V23 x193 x194 x195 x196 x197 x198 x199 x200 x201 x202 x203 x204 x205 x206 x207 x208 x209 x210 x211 x212 x213 x214)) 3 (fun w => C23 (Addr.mk b1 0 none) x193 x194 x195 x196 x197 x198 x199 x200 x201 x202 x203 x204 x205 x206 x207 x208 x209 x210 x211 x212 x213 x214 w) rfl (by kernel_rfl) (by kernel_rfl) (by kernel_rfl) rfl rfl rfl ⟨q193, q194, q195, q196, q197, q198, q199, q200, q201, q202, q203, q204, q205, q206, q207, q208, q209, q210, q211, q212, q213, q214⟩ (fun w q => (x_loadN (S23 x193 x194 x195 x196 x197 x198 x199 x200 x201 x202 x203 x204 x205 x206 x207 x208 x209 x210 x211 x212 x213 x214) rfl e2 SH_24 (K23 q))) ?_
      obtain ⟨x215, q215, x216, q216, x217, q217, x218, q218, x219, q219, x220, q220, x221, q221, x222, q222, x223, q223, x224, q224, x225, q225, x226, q226, x227, q227, x228, q228, x229, q229, x230, q230, x231, q231, x232, q232, x233, q233, x234, q234, x235, q235, x236, q236, h⟩ := h
      refine wpD_take (v := (V23 x215 x216 x217 x218 x219 x220 x221 x222 x223 x224 x225 x226 x227 x228 x229 x230 x231 x232 x233 x234 x235 x236)) 4 (fun w => C23 (Addr.mk b2 0 none) x215 x216 x217 x218 x219 x220 x221 x222 x223 x224 x225 x226 x227 x228 x229 x230 x231 x232 x233 x234 x235 x236 w) rfl (by kernel_rfl) (by kernel_rfl) (by kernel_rfl) rfl rfl rfl ⟨q215, q216, q217, q218, q219, q220, q221, q222, q223, q224, q225, q226, q227, q228, q229, q230, q231, q232, q233, q234, q235, q236⟩ (fun w q => (x_loadN (S23 x215 x216 x217 x218 x219 x220 x221 x222 x223 x224 x225 x226 x227 x228 x229 x230 x231 x232 x233 x234 x235 x236) rfl e3 SH_24 (K23 q))) ?_
      refine wpD_all (rs := [2]) (by kernel_rfl) (by simp) (allD_cons ?_ allD_nil)
      refine stepD_enterL (L' := [(4, fun w => C23 (Addr.mk b2 0 none) x215 x216 x217 x218 x219 x220 x221 x222 x223 x224 x225 x226 x227 x228 x229 x230 x231 x232 x233 x234 x235 x236 w), (3, fun w => C23 (Addr.mk b1 0 none) x193 x194 x195 x196 x197 x198 x199 x200 x201 x202 x203 x204 x205 x206 x207 x208 x209 x210 x211 x212 x213 x214 w)]) rfl rfl rfl rfl (x_call (vs := [(V23 x149 x150 x151 x152 x153 x154 x155 x156 x157 x158 x159 x160 x161 x162 x163 x164 x165 x166 x167 x168 x169 x170), (V23 x171 x172 x173 x174 x175 x176 x177 x178 x179 x180 x181 x182 x183 x184 x185 x186 x187 x188 x189 x190 x191 x192)]) rfl rfl (mapl_cons rfl (mapl_cons rfl mapl_nil)) Try.func15 NN_15 NB_15) (by kernel_rfl) (Calls.mono h ?_)
      rintro _ w8 ⟨r237, rfl, h⟩
      obtain ⟨o4, h⟩ := h
      obtain ⟨o3, h⟩ := h
      refine ⟨_, rfl, (held_cons o4 (held_cons o3 held_nil)), ?_⟩
      refine wpD_all (rs := [5]) (by kernel_rfl) (by simp) (allD_cons ?_ allD_nil)
      refine stepD_enterL (L' := []) rfl rfl rfl rfl (x_call (vs := [(V23 x193 x194 x195 x196 x197 x198 x199 x200 x201 x202 x203 x204 x205 x206 x207 x208 x209 x210 x211 x212 x213 x214), (V23 x215 x216 x217 x218 x219 x220 x221 x222 x223 x224 x225 x226 x227 x228 x229 x230 x231 x232 x233 x234 x235 x236)]) rfl rfl (mapl_cons rfl (mapl_cons rfl mapl_nil)) Try.func17 NN_17 NB_17) (by kernel_rfl) (Calls.mono h ?_)
      rintro _ w9 ⟨r238, rfl, h⟩
      refine ⟨_, rfl, held_nil, ?_⟩
      refine wpD_all (rs := [6]) (by kernel_rfl) (by simp) (allD_cons ?_ allD_nil)
      obtain ⟨b239, hb239⟩ : ∃ u, u = w9.heap.size := ⟨_, rfl⟩
      obtain ⟨w10, hw239⟩ : ∃ u, u = w9.alloc (.cells #[(Value.string r237.1), (Value.int .i64 r237.2.1), (Value.int .i64 r237.2.2.1), (Value.int .i64 r237.2.2.2.1), (Value.bool r237.2.2.2.2.1), (Value.int .i64 r237.2.2.2.2.2.1), (Value.bool r237.2.2.2.2.2.2.1), (Value.bool r237.2.2.2.2.2.2.2.1), (Value.int .i64 r237.2.2.2.2.2.2.2.2.1), (Value.int .i64 r237.2.2.2.2.2.2.2.2.2.1), (Value.int .i64 r237.2.2.2.2.2.2.2.2.2.2.1), (Value.int .i64 r237.2.2.2.2.2.2.2.2.2.2.2.1), (Sl.v r237.2.2.2.2.2.2.2.2.2.2.2.2.1), (Value.int .i64 r237.2.2.2.2.2.2.2.2.2.2.2.2.2.1), (Value.int .i64 r237.2.2.2.2.2.2.2.2.2.2.2.2.2.2.1), (Value.int .i64 r237.2.2.2.2.2.2.2.2.2.2.2.2.2.2.2.1), (Value.int .i64 r237.2.2.2.2.2.2.2.2.2.2.2.2.2.2.2.2.1), (Value.bool r237.2.2.2.2.2.2.2.2.2.2.2.2.2.2.2.2.2.1), (Value.int .i64 r237.2.2.2.2.2.2.2.2.2.2.2.2.2.2.2.2.2.2.1), (Value.int .i64 r237.2.2.2.2.2.2.2.2.2.2.2.2.2.2.2.2.2.2.2.1), (Value.int .i64 r237.2.2.2.2.2.2.2.2.2.2.2.2.2.2.2.2.2.2.2.2.1), (Value.int .i64 r237.2.2.2.2.2.2.2.2.2.2.2.2.2.2.2.2.2.2.2.2.2), (Value.string r238.1), (Value.int .i64 r238.2.1), (Value.int .i64 r238.2.2.1), (Value.int .i64 r238.2.2.2.1), (Value.bool r238.2.2.2.2.1), (Value.int .i64 r238.2.2.2.2.2.1), (Value.bool r238.2.2.2.2.2.2.1), (Value.bool r238.2.2.2.2.2.2.2.1), (Value.int .i64 r238.2.2.2.2.2.2.2.2.1), (Value.int .i64 r238.2.2.2.2.2.2.2.2.2.1), (Value.int .i64 r238.2.2.2.2.2.2.2.2.2.2.1), (Value.int .i64 r238.2.2.2.2.2.2.2.2.2.2.2.1), (Sl.v r238.2.2.2.2.2.2.2.2.2.2.2.2.1), (Value.int .i64 r238.2.2.2.2.2.2.2.2.2.2.2.2.2.1), (Value.int .i64 r238.2.2.2.2.2.2.2.2.2.2.2.2.2.2.1), (Value.int .i64 r238.2.2.2.2.2.2.2.2.2.2.2.2.2.2.2.1), (Value.int .i64 r238.2.2.2.2.2.2.2.2.2.2.2.2.2.2.2.2.1), (Value.bool r238.2.2.2.2.2.2.2.2.2.2.2.2.2.2.2.2.2.1), (Value.int .i64 r238.2.2.2.2.2.2.2.2.2.2.2.2.2.2.2.2.2.2.1), (Value.int .i64 r238.2.2.2.2.2.2.2.2.2.2.2.2.2.2.2.2.2.2.2.1), (Value.int .i64 r238.2.2.2.2.2.2.2.2.2.2.2.2.2.2.2.2.2.2.2.2.1), (Value.int .i64 r238.2.2.2.2.2.2.2.2.2.2.2.2.2.2.2.2.2.2.2.2.2)] 24) := ⟨_, rfl⟩
      replace h := h b239 w10 hb239 hw239
      refine stepD_valL (L' := []) (v := (Sl.v (⟨some ⟨b239, 0, none⟩, 2, 2⟩ : Sl))) (w' := w10) rfl rfl rfl rfl ((x_buildSlice (qs := [(0, (V23 r237.1 r237.2.1 r237.2.2.1 r237.2.2.2.1 r237.2.2.2.2.1 r237.2.2.2.2.2.1 r237.2.2.2.2.2.2.1 r237.2.2.2.2.2.2.2.1 r237.2.2.2.2.2.2.2.2.1 r237.2.2.2.2.2.2.2.2.2.1 r237.2.2.2.2.2.2.2.2.2.2.1 r237.2.2.2.2.2.2.2.2.2.2.2.1 r237.2.2.2.2.2.2.2.2.2.2.2.2.1 r237.2.2.2.2.2.2.2.2.2.2.2.2.2.1 r237.2.2.2.2.2.2.2.2.2.2.2.2.2.2.1 r237.2.2.2.2.2.2.2.2.2.2.2.2.2.2.2.1 r237.2.2.2.2.2.2.2.2.2.2.2.2.2.2.2.2.1 r237.2.2.2.2.2.2.2.2.2.2.2.2.2.2.2.2.2.1 r237.2.2.2.2.2.2.2.2.2.2.2.2.2.2.2.2.2.2.1 r237.2.2.2.2.2.2.2.2.2.2.2.2.2.2.2.2.2.2.2.1 r237.2.2.2.2.2.2.2.2.2.2.2.2.2.2.2.2.2.2.2.2.1 r237.2.2.2.2.2.2.2.2.2.2.2.2.2.2.2.2.2.2.2.2.2)), (1, (V23 r238.1 r238.2.1 r238.2.2.1 r238.2.2.2.1 r238.2.2.2.2.1 r238.2.2.2.2.2.1 r238.2.2.2.2.2.2.1 r238.2.2.2.2.2.2.2.1 r238.2.2.2.2.2.2.2.2.1 r238.2.2.2.2.2.2.2.2.2.1 r238.2.2.2.2.2.2.2.2.2.2.1 r238.2.2.2.2.2.2.2.2.2.2.2.1 r238.2.2.2.2.2.2.2.2.2.2.2.2.1 r238.2.2.2.2.2.2.2.2.2.2.2.2.2.1 r238.2.2.2.2.2.2.2.2.2.2.2.2.2.2.1 r238.2.2.2.2.2.2.2.2.2.2.2.2.2.2.2.1 r238.2.2.2.2.2.2.2.2.2.2.2.2.2.2.2.2.1 r238.2.2.2.2.2.2.2.2.2.2.2.2.2.2.2.2.2.1 r238.2.2.2.2.2.2.2.2.2.2.2.2.2.2.2.2.2.2.1 r238.2.2.2.2.2.2.2.2.2.2.2.2.2.2.2.2.2.2.2.1 r238.2.2.2.2.2.2.2.2.2.2.2.2.2.2.2.2.2.2.2.2.1 r238.2.2.2.2.2.2.2.2.2.2.2.2.2.2.2.2.2.2.2.2.2))]) rfl (by rfl) (BS_31_2_0_1 r237.1 r237.2.1 r237.2.2.1 r237.2.2.2.1 r237.2.2.2.2.1 r237.2.2.2.2.2.1 r237.2.2.2.2.2.2.1 r237.2.2.2.2.2.2.2.1 r237.2.2.2.2.2.2.2.2.1 r237.2.2.2.2.2.2.2.2.2.1 r237.2.2.2.2.2.2.2.2.2.2.1 r237.2.2.2.2.2.2.2.2.2.2.2.1 r237.2.2.2.2.2.2.2.2.2.2.2.2.1 r237.2.2.2.2.2.2.2.2.2.2.2.2.2.1 r237.2.2.2.2.2.2.2.2.2.2.2.2.2.2.1 r237.2.2.2.2.2.2.2.2.2.2.2.2.2.2.2.1 r237.2.2.2.2.2.2.2.2.2.2.2.2.2.2.2.2.1 r237.2.2.2.2.2.2.2.2.2.2.2.2.2.2.2.2.2.1 r237.2.2.2.2.2.2.2.2.2.2.2.2.2.2.2.2.2.2.1 r237.2.2.2.2.2.2.2.2.2.2.2.2.2.2.2.2.2.2.2.1 r237.2.2.2.2.2.2.2.2.2.2.2.2.2.2.2.2.2.2.2.2.1 r237.2.2.2.2.2.2.2.2.2.2.2.2.2.2.2.2.2.2.2.2.2 r238.1 r238.2.1 r238.2.2.1 r238.2.2.2.1 r238.2.2.2.2.1 r238.2.2.2.2.2.1 r238.2.2.2.2.2.2.1 r238.2.2.2.2.2.2.2.1 r238.2.2.2.2.2.2.2.2.1 r238.2.2.2.2.2.2.2.2.2.1 r238.2.2.2.2.2.2.2.2.2.2.1 r238.2.2.2.2.2.2.2.2.2.2.2.1 r238.2.2.2.2.2.2.2.2.2.2.2.2.1 r238.2.2.2.2.2.2.2.2.2.2.2.2.2.1 r238.2.2.2.2.2.2.2.2.2.2.2.2.2.2.1 r238.2.2.2.2.2.2.2.2.2.2.2.2.2.2.2.1 r238.2.2.2.2.2.2.2.2.2.2.2.2.2.2.2.2.1 r238.2.2.2.2.2.2.2.2.2.2.2.2.2.2.2.2.2.1 r238.2.2.2.2.2.2.2.2.2.2.2.2.2.2.2.2.2.2.1 r238.2.2.2.2.2.2.2.2.2.2.2.2.2.2.2.2.2.2.2.1 r238.2.2.2.2.2.2.2.2.2.2.2.2.2.2.2.2.2.2.2.2.1 r238.2.2.2.2.2.2.2.2.2.2.2.2.2.2.2.2.2.2.2.2.2)).trans (by rw [← hb239, ← hw239])) (by kernel_rfl) held_nil ?_
      refine wpD_take (v := (Sl.v (⟨some ⟨b239, 0, none⟩, 2, 2⟩ : Sl))) 7 (fun _ => True) rfl (by kernel_rfl) (by kernel_rfl) (by kernel_rfl) rfl rfl rfl trivial (fun w _ => (x_assign (v := (Sl.v (⟨some ⟨b239, 0, none⟩, 2, 2⟩ : Sl))) rfl rfl)) ?_
      exact wpD_done (by kernel_rfl) ⟨(⟨some ⟨b239, 0, none⟩, 2, 2⟩ : Sl), ⟨rfl, e2, e5, trivial⟩, h⟩
    clear h
    rintro l240 ρ w11 ⟨e6, e2, e5, -⟩ h
    replace h := hk l240 w11 h
    clear hk
    refine wpC_seq ?_
    refine wpC_seq ?_
    refine wpC_region ?_
    refine wpR_val (v := (Value.int .i64 0)) (w' := w11) rfl rfl rfl (x_assign (v := (Value.int .i64 0)) rfl rfl) ?_
    refine wpR_nil ?_
    refine wpC_block ?_
    obtain ⟨I241, μ241, hI241, hr241⟩ := h
    refine wpC_loop (fun (x : Int) ρ => ρ 7 = (Value.int .i64 x) ∧ ρ 2 = (Value.pointer (some (Addr.mk b1 0 none))) ∧ ρ 5 = (Value.bool r3) ∧ ρ 6 = (Sl.v l240) ∧ True) I241 μ241 0 ⟨rfl, e2, e5, e6, trivial⟩ hI241 ?_
    rintro l241 ρ w12 ⟨e7, e2, e5, e6, -⟩ h
    replace h := hr241 l241 w12 h
    clear hr241 hI241
    refine wpC_seq ?_
    refine wpC_seq ?_
    refine wpC_region ?_
    refine wpR_val (v := (Value.int .i64 l241)) (w' := w12) rfl rfl rfl (x_move (v := (Value.int .i64 l241)) rfl e7) ?_
    refine wpR_val (v := (Sl.v l240)) (w' := w12) rfl rfl rfl (x_move (v := (Sl.v l240)) rfl e6) ?_
    refine wpR_val (v := (Value.int .i64 (l240.len : Int))) (w' := w12) rfl rfl rfl (x_lenS (s := l240) rfl rfl isSliceT_31) ?_
    refine wpR_val (v := (Value.bool (decide (l241 < (l240.len : Int))))) (w' := w12) rfl rfl rfl (x_lss rfl rfl rfl) ?_
    refine wpR_nil ?_
    refine wpC_cond (b := decide (l241 < (l240.len : Int))) rfl (fun hc242 => ?_) (fun hc242 => ?_)
    · replace h := h.1 hc242
      refine wpC_skip ?_
      refine wpC_seq ?_
      refine wpC_block ?_
      refine wpC_seq ?_
      refine wpC_cut (fun ρ => ρ 2 = (Value.pointer (some (Addr.mk b1 0 none))) ∧ ρ 5 = (Value.bool r3) ∧ ρ 6 = (Sl.v l240) ∧ ρ 7 = (Value.int .i64 l241) ∧ True) ⟨e2, e5, e6, e7, trivial⟩ ?_
      rintro ρ ⟨e2, e5, e6, e7, -⟩
      refine wpC_region ?_
      refine wpR_val (v := (Sl.v l240)) (w' := w12) rfl rfl rfl (x_move (v := (Sl.v l240)) rfl e6) ?_
      refine wpR_val (v := (Value.int .i64 l241)) (w' := w12) rfl rfl rfl (x_move (v := (Value.int .i64 l241)) rfl e7) ?_
      obtain ⟨q243, z243, r243, h⟩ := h
      generalize hp243 : z243.add ((l241 : Int).toNat * 22) = p243 at h
      refine wpR_val (v := (Value.pointer (some p243))) (w' := w12) rfl rfl rfl ((x_indexAddr (s := l240) rfl rfl rfl ES_31 q243 r243).trans (by rw [hp243])) ?_
      obtain ⟨x244, q244, x245, q245, x246, q246, x247, q247, x248, q248, x249, q249, x250, q250, x251, q251, x252, q252, x253, q253, x254, q254, x255, q255, x256, q256, x257, q257, x258, q258, x259, q259, x260, q260, x261, q261, x262, q262, x263, q263, x264, q264, x265, q265, h⟩ := h
      refine wpR_val (v := (V23 x244 x245 x246 x247 x248 x249 x250 x251 x252 x253 x254 x255 x256 x257 x258 x259 x260 x261 x262 x263 x264 x265)) (w' := w12) rfl rfl rfl (x_loadN (S23 x244 x245 x246 x247 x248 x249 x250 x251 x252 x253 x254 x255 x256 x257 x258 x259 x260 x261 x262 x263 x264 x265) rfl rfl SH_24 (K23 ⟨q244, q245, q246, q247, q248, q249, q250, q251, q252, q253, q254, q255, q256, q257, q258, q259, q260, q261, q262, q263, q264, q265⟩)) ?_
      obtain ⟨b266, hb266⟩ : ∃ u, u = w12.heap.size := ⟨_, rfl⟩
      obtain ⟨w13, hw266⟩ : ∃ u, u = w12.alloc (.cells (A23 (ByteArray.mk #[]) 0 0 0 false 0 false false 0 0 0 0 Sl.nil 0 0 0 0 false 0 0 0 0) 24) := ⟨_, rfl⟩
      replace h := h b266 w13 hb266 hw266
      refine wpR_val (v := (Value.pointer (some (Addr.mk b266 0 none)))) (w' := w13) rfl rfl rfl ((x_alloc rfl ZV_24).trans (by rw [hb266, hw266]; rfl)) ?_
      obtain ⟨q267, h⟩ := h
      obtain ⟨w14, hw267⟩ : ∃ u, u = setAll w13 (Addr.mk b266 0 none) (S23 x244 x245 x246 x247 x248 x249 x250 x251 x252 x253 x254 x255 x256 x257 x258 x259 x260 x261 x262 x263 x264 x265) 0 := ⟨_, rfl⟩
      replace h := h w14 hw267
      refine wpR_skp (w' := w14) rfl rfl ((x_store (v := (V23 x244 x245 x246 x247 x248 x249 x250 x251 x252 x253 x254 x255 x256 x257 x258 x259 x260 x261 x262 x263 x264 x265)) rfl rfl rfl SZ_24 (ones (by rfl)) q267).trans (by rw [hw267]; rfl)) ?_
      refine wpR_nil ?_
      refine wpC_seq ?_
      refine wpC_cut (fun ρ => ρ 2 = (Value.pointer (some (Addr.mk b1 0 none))) ∧ ρ 5 = (Value.bool r3) ∧ ρ 6 = (Sl.v l240) ∧ ρ 7 = (Value.int .i64 l241) ∧ ρ 8 = (Value.pointer (some (Addr.mk b266 0 none))) ∧ True) ⟨e2, e5, e6, e7, rfl, trivial⟩ ?_
      rintro ρ ⟨e2, e5, e6, e7, e8, -⟩
      refine wpC_region ?_
      refine wpR_val (v := (Value.pointer (some ((Addr.mk b266 0 none).add 0)))) (w' := w14) rfl rfl rfl (x_fieldAddr rfl e8 FA_24_0) ?_
      obtain ⟨x268, q268, h⟩ := h
      refine wpR_val (v := (Value.string x268)) (w' := w14) rfl rfl rfl (x_load1 rfl rfl SH_9 q268) ?_
      refine wpR_val (v := (Value.pointer (some ((Addr.mk b1 0 none).add 0)))) (w' := w14) rfl rfl rfl (x_fieldAddr rfl e2 FA_24_0) ?_
      obtain ⟨x269, q269, h⟩ := h
      refine wpR_val (v := (Value.string x269)) (w' := w14) rfl rfl rfl (x_load1 rfl rfl SH_9 q269) ?_
      refine wpR_val (v := (Value.bool (beqS x268 x269))) (w' := w14) rfl rfl rfl (x_eqlS rfl rfl rfl) ?_
      refine wpR_val (v := (Value.bool (beqS x268 x269))) (w' := w14) rfl rfl rfl (x_move (v := (Value.bool (beqS x268 x269))) rfl rfl) ?_
      obtain ⟨J270, h, hk⟩ := h
      refine wpR_joinJ 6 (fun x ρ => ρ 62 = Value.bool x ∧ ρ 2 = (Value.pointer (some (Addr.mk b1 0 none))) ∧ ρ 5 = (Value.bool r3) ∧ ρ 6 = (Sl.v l240) ∧ ρ 7 = (Value.int .i64 l241) ∧ ρ 8 = (Value.pointer (some (Addr.mk b266 0 none))) ∧ True) (fun x w => J270 x ∧ w14 = w) ?_ ?_
      · clear hk
        rcases Bool.eq_false_or_eq_true (beqS x268 x269) with hc271 | hc271
        · replace h := h.1 hc271
          refine wpR_val (v := (Value.pointer (some ((Addr.mk b266 0 none).add 13)))) (w' := w14) (wantG rfl rfl rfl hc271) rfl rfl (x_fieldAddr rfl e8 FA_24_13) ?_
          obtain ⟨x272, q272, h⟩ := h
          refine wpR_val (v := (Value.int .i64 x272)) (w' := w14) (wantG rfl rfl rfl hc271) rfl rfl (x_load1 rfl rfl SH_3 q272) ?_
          refine wpR_val (v := (Value.pointer (some ((Addr.mk b1 0 none).add 13)))) (w' := w14) (wantG rfl rfl rfl hc271) rfl rfl (x_fieldAddr rfl e2 FA_24_13) ?_
          obtain ⟨x273, q273, h⟩ := h
          refine wpR_val (v := (Value.int .i64 x273)) (w' := w14) (wantG rfl rfl rfl hc271) rfl rfl (x_load1 rfl rfl SH_3 q273) ?_
          refine wpR_val (v := (Value.bool (decide (x272 = x273)))) (w' := w14) (wantG rfl rfl rfl hc271) rfl rfl (x_eql rfl rfl rfl) ?_
          refine wpR_val (v := (Value.bool (decide (x272 = x273)))) (w' := w14) rfl rfl rfl (x_pickT (v := (Value.bool (decide (x272 = x273)))) rfl rfl hc271 rfl) ?_
          refine wpR_nil ?_
          exact ⟨decide (x272 = x273), ⟨rfl, e2, e5, e6, e7, e8, trivial⟩, h, rfl⟩
        · replace h := h.2 hc271
          refine wpR_pass (wantN rfl rfl rfl hc271) rfl rfl ?_
          refine wpR_pass (wantN rfl rfl rfl hc271) rfl rfl ?_
          refine wpR_pass (wantN rfl rfl rfl hc271) rfl rfl ?_
          refine wpR_pass (wantN rfl rfl rfl hc271) rfl rfl ?_
          refine wpR_pass (wantN rfl rfl rfl hc271) rfl rfl ?_
          refine wpR_val (v := (Value.bool false)) (w' := w14) rfl rfl rfl (x_pickF (v := (Value.bool false)) rfl rfl hc271 rfl) ?_
          refine wpR_nil ?_
          exact ⟨false, ⟨rfl, e2, e5, e6, e7, e8, trivial⟩, h, rfl⟩
      clear h
      rintro c274 ρ wj ⟨e62, e2, e5, e6, e7, e8, -⟩ ⟨h, rfl⟩
      replace h := hk c274 h
      clear hk
      refine wpR_val (v := (Value.bool c274)) (w' := w14) rfl rfl rfl (x_move (v := (Value.bool c274)) rfl e62) ?_
      obtain ⟨J275, h, hk⟩ := h
      refine wpR_joinJ 6 (fun x ρ => ρ 69 = Value.bool x ∧ ρ 2 = (Value.pointer (some (Addr.mk b1 0 none))) ∧ ρ 5 = (Value.bool r3) ∧ ρ 6 = (Sl.v l240) ∧ ρ 7 = (Value.int .i64 l241) ∧ ρ 8 = (Value.pointer (some (Addr.mk b266 0 none))) ∧ True) (fun x w => J275 x ∧ w14 = w) ?_ ?_
      · clear hk
        rcases Bool.eq_false_or_eq_true (c274) with hc276 | hc276
        · replace h := h.1 hc276
          refine wpR_val (v := (Value.pointer (some ((Addr.mk b266 0 none).add 14)))) (w' := w14) (wantG rfl rfl rfl hc276) rfl rfl (x_fieldAddr rfl e8 FA_24_14) ?_
          obtain ⟨x277, q277, h⟩ := h
          refine wpR_val (v := (Value.int .i64 x277)) (w' := w14) (wantG rfl rfl rfl hc276) rfl rfl (x_load1 rfl rfl SH_3 q277) ?_
          refine wpR_val (v := (Value.pointer (some ((Addr.mk b1 0 none).add 14)))) (w' := w14) (wantG rfl rfl rfl hc276) rfl rfl (x_fieldAddr rfl e2 FA_24_14) ?_
          obtain ⟨x278, q278, h⟩ := h
          refine wpR_val (v := (Value.int .i64 x278)) (w' := w14) (wantG rfl rfl rfl hc276) rfl rfl (x_load1 rfl rfl SH_3 q278) ?_
          refine wpR_val (v := (Value.bool (decide (x277 = x278)))) (w' := w14) (wantG rfl rfl rfl hc276) rfl rfl (x_eql rfl rfl rfl) ?_
          refine wpR_val (v := (Value.bool (decide (x277 = x278)))) (w' := w14) rfl rfl rfl (x_pickT (v := (Value.bool (decide (x277 = x278)))) rfl rfl hc276 rfl) ?_
          refine wpR_nil ?_
          exact ⟨decide (x277 = x278), ⟨rfl, e2, e5, e6, e7, e8, trivial⟩, h, rfl⟩
        · replace h := h.2 hc276
          refine wpR_pass (wantN rfl rfl rfl hc276) rfl rfl ?_
          refine wpR_pass (wantN rfl rfl rfl hc276) rfl rfl ?_
          refine wpR_pass (wantN rfl rfl rfl hc276) rfl rfl ?_
          refine wpR_pass (wantN rfl rfl rfl hc276) rfl rfl ?_
          refine wpR_pass (wantN rfl rfl rfl hc276) rfl rfl ?_
          refine wpR_val (v := (Value.bool false)) (w' := w14) rfl rfl rfl (x_pickF (v := (Value.bool false)) rfl rfl hc276 rfl) ?_
          refine wpR_nil ?_
          exact ⟨false, ⟨rfl, e2, e5, e6, e7, e8, trivial⟩, h, rfl⟩
      clear h
      rintro c279 ρ wj ⟨e69, e2, e5, e6, e7, e8, -⟩ ⟨h, rfl⟩
      replace h := hk c279 h
      clear hk
      refine wpR_val (v := (Value.bool c279)) (w' := w14) rfl rfl rfl (x_move (v := (Value.bool c279)) rfl e69) ?_
      obtain ⟨J280, h, hk⟩ := h
      refine wpR_joinJ 6 (fun x ρ => ρ 76 = Value.bool x ∧ ρ 2 = (Value.pointer (some (Addr.mk b1 0 none))) ∧ ρ 5 = (Value.bool r3) ∧ ρ 6 = (Sl.v l240) ∧ ρ 7 = (Value.int .i64 l241) ∧ ρ 8 = (Value.pointer (some (Addr.mk b266 0 none))) ∧ True) (fun x w => J280 x ∧ w14 = w) ?_ ?_
      · clear hk
        rcases Bool.eq_false_or_eq_true (c279) with hc281 | hc281
        · replace h := h.1 hc281
          refine wpR_val (v := (Value.pointer (some ((Addr.mk b266 0 none).add 15)))) (w' := w14) (wantG rfl rfl rfl hc281) rfl rfl (x_fieldAddr rfl e8 FA_24_15) ?_
          obtain ⟨x282, q282, h⟩ := h
          refine wpR_val (v := (Value.int .i64 x282)) (w' := w14) (wantG rfl rfl rfl hc281) rfl rfl (x_load1 rfl rfl SH_3 q282) ?_
          refine wpR_val (v := (Value.pointer (some ((Addr.mk b1 0 none).add 15)))) (w' := w14) (wantG rfl rfl rfl hc281) rfl rfl (x_fieldAddr rfl e2 FA_24_15) ?_
          obtain ⟨x283, q283, h⟩ := h
          refine wpR_val (v := (Value.int .i64 x283)) (w' := w14) (wantG rfl rfl rfl hc281) rfl rfl (x_load1 rfl rfl SH_3 q283) ?_
          refine wpR_val (v := (Value.bool (decide (x282 = x283)))) (w' := w14) (wantG rfl rfl rfl hc281) rfl rfl (x_eql rfl rfl rfl) ?_
          refine wpR_val (v := (Value.bool (decide (x282 = x283)))) (w' := w14) rfl rfl rfl (x_pickT (v := (Value.bool (decide (x282 = x283)))) rfl rfl hc281 rfl) ?_
          refine wpR_nil ?_
          exact ⟨decide (x282 = x283), ⟨rfl, e2, e5, e6, e7, e8, trivial⟩, h, rfl⟩
        · replace h := h.2 hc281
          refine wpR_pass (wantN rfl rfl rfl hc281) rfl rfl ?_
          refine wpR_pass (wantN rfl rfl rfl hc281) rfl rfl ?_
          refine wpR_pass (wantN rfl rfl rfl hc281) rfl rfl ?_
          refine wpR_pass (wantN rfl rfl rfl hc281) rfl rfl ?_
          refine wpR_pass (wantN rfl rfl rfl hc281) rfl rfl ?_
          refine wpR_val (v := (Value.bool false)) (w' := w14) rfl rfl rfl (x_pickF (v := (Value.bool false)) rfl rfl hc281 rfl) ?_
          refine wpR_nil ?_
          exact ⟨false, ⟨rfl, e2, e5, e6, e7, e8, trivial⟩, h, rfl⟩
      clear h
      rintro c284 ρ wj ⟨e76, e2, e5, e6, e7, e8, -⟩ ⟨h, rfl⟩
      replace h := hk c284 h
      clear hk
      refine wpR_val (v := (Value.bool c284)) (w' := w14) rfl rfl rfl (x_move (v := (Value.bool c284)) rfl e76) ?_
      obtain ⟨J285, h, hk⟩ := h
      refine wpR_joinJ 6 (fun x ρ => ρ 83 = Value.bool x ∧ ρ 2 = (Value.pointer (some (Addr.mk b1 0 none))) ∧ ρ 5 = (Value.bool r3) ∧ ρ 6 = (Sl.v l240) ∧ ρ 7 = (Value.int .i64 l241) ∧ ρ 8 = (Value.pointer (some (Addr.mk b266 0 none))) ∧ True) (fun x w => J285 x ∧ w14 = w) ?_ ?_
      · clear hk
        rcases Bool.eq_false_or_eq_true (c284) with hc286 | hc286
        · replace h := h.1 hc286
          refine wpR_val (v := (Value.pointer (some ((Addr.mk b266 0 none).add 17)))) (w' := w14) (wantG rfl rfl rfl hc286) rfl rfl (x_fieldAddr rfl e8 FA_24_17) ?_
          obtain ⟨x287, q287, h⟩ := h
          refine wpR_val (v := (Value.bool x287)) (w' := w14) (wantG rfl rfl rfl hc286) rfl rfl (x_load1 rfl rfl SH_4 q287) ?_
          refine wpR_val (v := (Value.pointer (some ((Addr.mk b1 0 none).add 17)))) (w' := w14) (wantG rfl rfl rfl hc286) rfl rfl (x_fieldAddr rfl e2 FA_24_17) ?_
          obtain ⟨x288, q288, h⟩ := h
          refine wpR_val (v := (Value.bool x288)) (w' := w14) (wantG rfl rfl rfl hc286) rfl rfl (x_load1 rfl rfl SH_4 q288) ?_
          refine wpR_val (v := (Value.bool (x287 == x288))) (w' := w14) (wantG rfl rfl rfl hc286) rfl rfl (x_eqlB rfl rfl rfl isBoolT_4) ?_
          refine wpR_val (v := (Value.bool (x287 == x288))) (w' := w14) rfl rfl rfl (x_pickT (v := (Value.bool (x287 == x288))) rfl rfl hc286 rfl) ?_
          refine wpR_nil ?_
          exact ⟨x287 == x288, ⟨rfl, e2, e5, e6, e7, e8, trivial⟩, h, rfl⟩
        · replace h := h.2 hc286
          refine wpR_pass (wantN rfl rfl rfl hc286) rfl rfl ?_
          refine wpR_pass (wantN rfl rfl rfl hc286) rfl rfl ?_
          refine wpR_pass (wantN rfl rfl rfl hc286) rfl rfl ?_
          refine wpR_pass (wantN rfl rfl rfl hc286) rfl rfl ?_
          refine wpR_pass (wantN rfl rfl rfl hc286) rfl rfl ?_
          refine wpR_val (v := (Value.bool false)) (w' := w14) rfl rfl rfl (x_pickF (v := (Value.bool false)) rfl rfl hc286 rfl) ?_
          refine wpR_nil ?_
          exact ⟨false, ⟨rfl, e2, e5, e6, e7, e8, trivial⟩, h, rfl⟩
      clear h
      rintro c289 ρ wj ⟨e83, e2, e5, e6, e7, e8, -⟩ ⟨h, rfl⟩
      replace h := hk c289 h
      clear hk
      refine wpR_val (v := (Value.bool c289)) (w' := w14) rfl rfl rfl (x_move (v := (Value.bool c289)) rfl e83) ?_
      obtain ⟨J290, h, hk⟩ := h
      refine wpR_joinJ 6 (fun x ρ => ρ 90 = Value.bool x ∧ ρ 2 = (Value.pointer (some (Addr.mk b1 0 none))) ∧ ρ 5 = (Value.bool r3) ∧ ρ 6 = (Sl.v l240) ∧ ρ 7 = (Value.int .i64 l241) ∧ ρ 8 = (Value.pointer (some (Addr.mk b266 0 none))) ∧ True) (fun x w => J290 x ∧ w14 = w) ?_ ?_
      · clear hk
        rcases Bool.eq_false_or_eq_true (c289) with hc291 | hc291
        · replace h := h.1 hc291
          refine wpR_val (v := (Value.pointer (some ((Addr.mk b266 0 none).add 18)))) (w' := w14) (wantG rfl rfl rfl hc291) rfl rfl (x_fieldAddr rfl e8 FA_24_18) ?_
          obtain ⟨x292, q292, h⟩ := h
          refine wpR_val (v := (Value.int .i64 x292)) (w' := w14) (wantG rfl rfl rfl hc291) rfl rfl (x_load1 rfl rfl SH_3 q292) ?_
          refine wpR_val (v := (Value.pointer (some ((Addr.mk b1 0 none).add 18)))) (w' := w14) (wantG rfl rfl rfl hc291) rfl rfl (x_fieldAddr rfl e2 FA_24_18) ?_
          obtain ⟨x293, q293, h⟩ := h
          refine wpR_val (v := (Value.int .i64 x293)) (w' := w14) (wantG rfl rfl rfl hc291) rfl rfl (x_load1 rfl rfl SH_3 q293) ?_
          refine wpR_val (v := (Value.bool (decide (x292 = x293)))) (w' := w14) (wantG rfl rfl rfl hc291) rfl rfl (x_eql rfl rfl rfl) ?_
          refine wpR_val (v := (Value.bool (decide (x292 = x293)))) (w' := w14) rfl rfl rfl (x_pickT (v := (Value.bool (decide (x292 = x293)))) rfl rfl hc291 rfl) ?_
          refine wpR_nil ?_
          exact ⟨decide (x292 = x293), ⟨rfl, e2, e5, e6, e7, e8, trivial⟩, h, rfl⟩
        · replace h := h.2 hc291
          refine wpR_pass (wantN rfl rfl rfl hc291) rfl rfl ?_
          refine wpR_pass (wantN rfl rfl rfl hc291) rfl rfl ?_
          refine wpR_pass (wantN rfl rfl rfl hc291) rfl rfl ?_
          refine wpR_pass (wantN rfl rfl rfl hc291) rfl rfl ?_
          refine wpR_pass (wantN rfl rfl rfl hc291) rfl rfl ?_
          refine wpR_val (v := (Value.bool false)) (w' := w14) rfl rfl rfl (x_pickF (v := (Value.bool false)) rfl rfl hc291 rfl) ?_
          refine wpR_nil ?_
          exact ⟨false, ⟨rfl, e2, e5, e6, e7, e8, trivial⟩, h, rfl⟩
      clear h
      rintro c294 ρ wj ⟨e90, e2, e5, e6, e7, e8, -⟩ ⟨h, rfl⟩
      replace h := hk c294 h
      clear hk
      refine wpR_val (v := (Value.bool c294)) (w' := w14) rfl rfl rfl (x_move (v := (Value.bool c294)) rfl e90) ?_
      obtain ⟨J295, h, hk⟩ := h
      refine wpR_joinJ 6 (fun x ρ => ρ 97 = Value.bool x ∧ ρ 2 = (Value.pointer (some (Addr.mk b1 0 none))) ∧ ρ 5 = (Value.bool r3) ∧ ρ 6 = (Sl.v l240) ∧ ρ 7 = (Value.int .i64 l241) ∧ ρ 8 = (Value.pointer (some (Addr.mk b266 0 none))) ∧ True) (fun x w => J295 x ∧ w14 = w) ?_ ?_
      · clear hk
        rcases Bool.eq_false_or_eq_true (c294) with hc296 | hc296
        · replace h := h.1 hc296
          refine wpR_val (v := (Value.pointer (some ((Addr.mk b266 0 none).add 19)))) (w' := w14) (wantG rfl rfl rfl hc296) rfl rfl (x_fieldAddr rfl e8 FA_24_19) ?_
          obtain ⟨x297, q297, h⟩ := h
          refine wpR_val (v := (Value.int .i64 x297)) (w' := w14) (wantG rfl rfl rfl hc296) rfl rfl (x_load1 rfl rfl SH_3 q297) ?_
          refine wpR_val (v := (Value.pointer (some ((Addr.mk b1 0 none).add 19)))) (w' := w14) (wantG rfl rfl rfl hc296) rfl rfl (x_fieldAddr rfl e2 FA_24_19) ?_
          obtain ⟨x298, q298, h⟩ := h
          refine wpR_val (v := (Value.int .i64 x298)) (w' := w14) (wantG rfl rfl rfl hc296) rfl rfl (x_load1 rfl rfl SH_3 q298) ?_
          refine wpR_val (v := (Value.bool (decide (x297 = x298)))) (w' := w14) (wantG rfl rfl rfl hc296) rfl rfl (x_eql rfl rfl rfl) ?_
          refine wpR_val (v := (Value.bool (decide (x297 = x298)))) (w' := w14) rfl rfl rfl (x_pickT (v := (Value.bool (decide (x297 = x298)))) rfl rfl hc296 rfl) ?_
          refine wpR_nil ?_
          exact ⟨decide (x297 = x298), ⟨rfl, e2, e5, e6, e7, e8, trivial⟩, h, rfl⟩
        · replace h := h.2 hc296
          refine wpR_pass (wantN rfl rfl rfl hc296) rfl rfl ?_
          refine wpR_pass (wantN rfl rfl rfl hc296) rfl rfl ?_
          refine wpR_pass (wantN rfl rfl rfl hc296) rfl rfl ?_
          refine wpR_pass (wantN rfl rfl rfl hc296) rfl rfl ?_
          refine wpR_pass (wantN rfl rfl rfl hc296) rfl rfl ?_
          refine wpR_val (v := (Value.bool false)) (w' := w14) rfl rfl rfl (x_pickF (v := (Value.bool false)) rfl rfl hc296 rfl) ?_
          refine wpR_nil ?_
          exact ⟨false, ⟨rfl, e2, e5, e6, e7, e8, trivial⟩, h, rfl⟩
      clear h
      rintro c299 ρ wj ⟨e97, e2, e5, e6, e7, e8, -⟩ ⟨h, rfl⟩
      replace h := hk c299 h
      clear hk
      refine wpR_val (v := (Value.bool c299)) (w' := w14) rfl rfl rfl (x_move (v := (Value.bool c299)) rfl e97) ?_
      obtain ⟨J300, h, hk⟩ := h
      refine wpR_joinJ 6 (fun x ρ => ρ 104 = Value.bool x ∧ ρ 2 = (Value.pointer (some (Addr.mk b1 0 none))) ∧ ρ 5 = (Value.bool r3) ∧ ρ 6 = (Sl.v l240) ∧ ρ 7 = (Value.int .i64 l241) ∧ ρ 8 = (Value.pointer (some (Addr.mk b266 0 none))) ∧ True) (fun x w => J300 x ∧ w14 = w) ?_ ?_
      · clear hk
        rcases Bool.eq_false_or_eq_true (c299) with hc301 | hc301
        · replace h := h.1 hc301
          refine wpR_val (v := (Value.pointer (some ((Addr.mk b266 0 none).add 20)))) (w' := w14) (wantG rfl rfl rfl hc301) rfl rfl (x_fieldAddr rfl e8 FA_24_20) ?_
          obtain ⟨x302, q302, h⟩ := h
          refine wpR_val (v := (Value.int .i64 x302)) (w' := w14) (wantG rfl rfl rfl hc301) rfl rfl (x_load1 rfl rfl SH_3 q302) ?_
          refine wpR_val (v := (Value.pointer (some ((Addr.mk b1 0 none).add 20)))) (w' := w14) (wantG rfl rfl rfl hc301) rfl rfl (x_fieldAddr rfl e2 FA_24_20) ?_
          obtain ⟨x303, q303, h⟩ := h
          refine wpR_val (v := (Value.int .i64 x303)) (w' := w14) (wantG rfl rfl rfl hc301) rfl rfl (x_load1 rfl rfl SH_3 q303) ?_
          refine wpR_val (v := (Value.bool (decide (x302 = x303)))) (w' := w14) (wantG rfl rfl rfl hc301) rfl rfl (x_eql rfl rfl rfl) ?_
          refine wpR_val (v := (Value.bool (decide (x302 = x303)))) (w' := w14) rfl rfl rfl (x_pickT (v := (Value.bool (decide (x302 = x303)))) rfl rfl hc301 rfl) ?_
          refine wpR_nil ?_
          exact ⟨decide (x302 = x303), ⟨rfl, e2, e5, e6, e7, e8, trivial⟩, h, rfl⟩
        · replace h := h.2 hc301
          refine wpR_pass (wantN rfl rfl rfl hc301) rfl rfl ?_
          refine wpR_pass (wantN rfl rfl rfl hc301) rfl rfl ?_
          refine wpR_pass (wantN rfl rfl rfl hc301) rfl rfl ?_
          refine wpR_pass (wantN rfl rfl rfl hc301) rfl rfl ?_
          refine wpR_pass (wantN rfl rfl rfl hc301) rfl rfl ?_
          refine wpR_val (v := (Value.bool false)) (w' := w14) rfl rfl rfl (x_pickF (v := (Value.bool false)) rfl rfl hc301 rfl) ?_
          refine wpR_nil ?_
          exact ⟨false, ⟨rfl, e2, e5, e6, e7, e8, trivial⟩, h, rfl⟩
      clear h
      rintro c304 ρ wj ⟨e104, e2, e5, e6, e7, e8, -⟩ ⟨h, rfl⟩
      replace h := hk c304 h
      clear hk
      refine wpR_val (v := (Value.bool c304)) (w' := w14) rfl rfl rfl (x_move (v := (Value.bool c304)) rfl e104) ?_
      obtain ⟨J305, h, hk⟩ := h
      refine wpR_joinJ 6 (fun x ρ => ρ 111 = Value.bool x ∧ ρ 2 = (Value.pointer (some (Addr.mk b1 0 none))) ∧ ρ 5 = (Value.bool r3) ∧ ρ 6 = (Sl.v l240) ∧ ρ 7 = (Value.int .i64 l241) ∧ ρ 8 = (Value.pointer (some (Addr.mk b266 0 none))) ∧ True) (fun x w => J305 x ∧ w14 = w) ?_ ?_
      · clear hk
        rcases Bool.eq_false_or_eq_true (c304) with hc306 | hc306
        · replace h := h.1 hc306
          refine wpR_val (v := (Value.pointer (some ((Addr.mk b266 0 none).add 21)))) (w' := w14) (wantG rfl rfl rfl hc306) rfl rfl (x_fieldAddr rfl e8 FA_24_21) ?_
          obtain ⟨x307, q307, h⟩ := h
          refine wpR_val (v := (Value.int .i64 x307)) (w' := w14) (wantG rfl rfl rfl hc306) rfl rfl (x_load1 rfl rfl SH_3 q307) ?_
          refine wpR_val (v := (Value.pointer (some ((Addr.mk b1 0 none).add 21)))) (w' := w14) (wantG rfl rfl rfl hc306) rfl rfl (x_fieldAddr rfl e2 FA_24_21) ?_
          obtain ⟨x308, q308, h⟩ := h
          refine wpR_val (v := (Value.int .i64 x308)) (w' := w14) (wantG rfl rfl rfl hc306) rfl rfl (x_load1 rfl rfl SH_3 q308) ?_
          refine wpR_val (v := (Value.bool (decide (x307 = x308)))) (w' := w14) (wantG rfl rfl rfl hc306) rfl rfl (x_eql rfl rfl rfl) ?_
          refine wpR_val (v := (Value.bool (decide (x307 = x308)))) (w' := w14) rfl rfl rfl (x_pickT (v := (Value.bool (decide (x307 = x308)))) rfl rfl hc306 rfl) ?_
          refine wpR_nil ?_
          exact ⟨decide (x307 = x308), ⟨rfl, e2, e5, e6, e7, e8, trivial⟩, h, rfl⟩
        · replace h := h.2 hc306
          refine wpR_pass (wantN rfl rfl rfl hc306) rfl rfl ?_
          refine wpR_pass (wantN rfl rfl rfl hc306) rfl rfl ?_
          refine wpR_pass (wantN rfl rfl rfl hc306) rfl rfl ?_
          refine wpR_pass (wantN rfl rfl rfl hc306) rfl rfl ?_
          refine wpR_pass (wantN rfl rfl rfl hc306) rfl rfl ?_
          refine wpR_val (v := (Value.bool false)) (w' := w14) rfl rfl rfl (x_pickF (v := (Value.bool false)) rfl rfl hc306 rfl) ?_
          refine wpR_nil ?_
          exact ⟨false, ⟨rfl, e2, e5, e6, e7, e8, trivial⟩, h, rfl⟩
      clear h
      rintro c309 ρ wj ⟨e111, e2, e5, e6, e7, e8, -⟩ ⟨h, rfl⟩
      replace h := hk c309 h
      clear hk
      refine wpR_val (v := (Value.bool c309)) (w' := w14) rfl rfl rfl (x_assign (v := (Value.bool c309)) rfl e111) ?_
      refine wpR_nil ?_
      refine wpC_seq ?_
      refine wpC_cut (fun ρ => ρ 2 = (Value.pointer (some (Addr.mk b1 0 none))) ∧ ρ 5 = (Value.bool r3) ∧ ρ 6 = (Sl.v l240) ∧ ρ 7 = (Value.int .i64 l241) ∧ ρ 8 = (Value.pointer (some (Addr.mk b266 0 none))) ∧ ρ 9 = (Value.bool c309) ∧ True) ⟨e2, e5, e6, e7, e8, rfl, trivial⟩ ?_
      rintro ρ ⟨e2, e5, e6, e7, e8, e9, -⟩
      refine wpC_region ?_
      obtain ⟨x310, q310, x311, q311, x312, q312, x313, q313, x314, q314, x315, q315, x316, q316, x317, q317, x318, q318, x319, q319, x320, q320, x321, q321, x322, q322, x323, q323, x324, q324, x325, q325, x326, q326, x327, q327, x328, q328, x329, q329, x330, q330, x331, q331, h⟩ := h
      refine wpR_val (v := (V23 x310 x311 x312 x313 x314 x315 x316 x317 x318 x319 x320 x321 x322 x323 x324 x325 x326 x327 x328 x329 x330 x331)) (w' := w14) rfl rfl rfl (x_loadN (S23 x310 x311 x312 x313 x314 x315 x316 x317 x318 x319 x320 x321 x322 x323 x324 x325 x326 x327 x328 x329 x330 x331) rfl e8 SH_24 (K23 ⟨q310, q311, q312, q313, q314, q315, q316, q317, q318, q319, q320, q321, q322, q323, q324, q325, q326, q327, q328, q329, q330, q331⟩)) ?_
      refine wpR_enter rfl rfl rfl (x_call (vs := [(V23 x310 x311 x312 x313 x314 x315 x316 x317 x318 x319 x320 x321 x322 x323 x324 x325 x326 x327 x328 x329 x330 x331)]) rfl rfl (mapl_cons rfl mapl_nil) Try.func10 NN_10 NB_10) (Calls.mono h ?_)
      rintro _ w15 ⟨r332, rfl, h⟩
      refine ⟨_, rfl, ?_⟩
      refine wpR_val (v := (Value.bool (!decide (r332 = 0)))) (w' := w15) rfl rfl rfl (x_neq rfl rfl rfl) ?_
      refine wpR_val (v := (Value.bool (!decide (r332 = 0)))) (w' := w15) rfl rfl rfl (x_move (v := (Value.bool (!decide (r332 = 0)))) rfl rfl) ?_
      refine wpR_joinJ 3 (fun (_ : Unit) ρ => ρ 118 = Value.bool ((!decide (r332 = 0)) || (!c309)) ∧ ρ 2 = (Value.pointer (some (Addr.mk b1 0 none))) ∧ ρ 5 = (Value.bool r3) ∧ ρ 6 = (Sl.v l240) ∧ ρ 7 = (Value.int .i64 l241) ∧ True) (fun _ w => w15 = w) ?_ ?_
      · clear h
        rcases Bool.eq_false_or_eq_true (!decide (r332 = 0)) with hc334 | hc334
        · skip
          refine wpR_pass (wantN rfl rfl rfl hc334) rfl rfl ?_
          refine wpR_pass (wantN rfl rfl rfl hc334) rfl rfl ?_
          refine wpR_val (v := (Value.bool true)) (w' := w15) rfl rfl rfl (x_pickT (v := (Value.bool true)) rfl rfl hc334 rfl) ?_
          refine wpR_nil ?_
          exact ⟨(), ⟨(by rw [hc334]; rfl), e2, e5, e6, e7, trivial⟩, rfl⟩
        · skip
          refine wpR_val (v := (Value.bool c309)) (w' := w15) (wantG rfl rfl rfl hc334) rfl rfl (x_move (v := (Value.bool c309)) rfl e9) ?_
          refine wpR_val (v := (Value.bool (!c309))) (w' := w15) (wantG rfl rfl rfl hc334) rfl rfl (x_not rfl rfl) ?_
          refine wpR_val (v := (Value.bool (!c309))) (w' := w15) rfl rfl rfl (x_pickF (v := (Value.bool (!c309))) rfl rfl hc334 rfl) ?_
          refine wpR_nil ?_
          exact ⟨(), ⟨(by rw [hc334]; rfl), e2, e5, e6, e7, trivial⟩, rfl⟩
      rintro _ ρ wj ⟨e118, e2, e5, e6, e7, -⟩ rfl
      refine wpR_nil ?_
      refine wpC_cond (b := (!decide (r332 = 0)) || (!c309)) e118 (fun hc335 => ?_) (fun hc335 => ?_)
      · replace h := h.1 hc335
        refine wpC_seq ?_
        refine wpC_region ?_
        refine wpR_val (v := (Value.bool false)) (w' := w15) rfl rfl rfl (x_assign (v := (Value.bool false)) rfl rfl) ?_
        refine wpR_nil ?_
        refine wpC_ret ?_
        exact ⟨.inl rfl, fun a ha => ⟨_, results_rep1 rfl ha rfl, false, rfl, h⟩⟩
      · replace h := h.2 hc335
        refine wpC_skip ?_
        refine wpC_region ?_
        refine wpR_val (v := (Value.int .i64 l241)) (w' := w15) rfl rfl rfl (x_move (v := (Value.int .i64 l241)) rfl e7) ?_
        refine wpR_val (v := (Value.int .i64 (IntKind.i64.wrap (l241 + 1)))) (w' := w15) rfl rfl rfl (x_add rfl rfl rfl) ?_
        refine wpR_val (v := (Value.int .i64 (IntKind.i64.wrap (l241 + 1)))) (w' := w15) rfl rfl rfl (x_assign (v := (Value.int .i64 (IntKind.i64.wrap (l241 + 1)))) rfl rfl) ?_
        refine wpR_nil ?_
        exact ⟨IntKind.i64.wrap (l241 + 1), ⟨rfl, e2, e5, e6, trivial⟩, h⟩
    · replace h := h.2 hc242
      refine wpC_exit ?_
      refine wpC_seq ?_
      refine wpC_cut (fun ρ => ρ 5 = (Value.bool r3) ∧ True) ⟨e5, trivial⟩ ?_
      rintro ρ ⟨e5, -⟩
      refine wpC_region ?_
      refine wpR_val (v := (Value.bool r3)) (w' := w12) rfl rfl rfl (x_move (v := (Value.bool r3)) rfl e5) ?_
      refine wpR_val (v := (Value.bool r3)) (w' := w12) rfl rfl rfl (x_assign (v := (Value.bool r3)) rfl rfl) ?_
      refine wpR_nil ?_
      refine wpC_ret ?_
      exact ⟨.inl rfl, fun a ha => ⟨_, results_rep1 rfl ha rfl, r3, rfl, h⟩⟩

/-- lingualaw13.ProfileAbsorbs -/
def F7 (p0_0 : ByteArray) (p0_1 : Int) (p0_2 : Int) (p0_3 : Int) (p0_4 : Bool) (p0_5 : Int) (p0_6 : Bool) (p0_7 : Bool) (p0_8 : Int) (p0_9 : Int) (p0_10 : Int) (p0_11 : Int) (p0_12 : Sl) (p0_13 : Int) (p0_14 : Int) (p0_15 : Int) (p0_16 : Int) (p0_17 : Bool) (p0_18 : Int) (p0_19 : Int) (p0_20 : Int) (p0_21 : Int) (p1_0 : ByteArray) (p1_1 : Int) (p1_2 : Int) (p1_3 : Int) (p1_4 : Bool) (p1_5 : Int) (p1_6 : Bool) (p1_7 : Bool) (p1_8 : Int) (p1_9 : Int) (p1_10 : Int) (p1_11 : Int) (p1_12 : Sl) (p1_13 : Int) (p1_14 : Int) (p1_15 : Int) (p1_16 : Int) (p1_17 : Bool) (p1_18 : Int) (p1_19 : Int) (p1_20 : Int) (p1_21 : Int) (w0 : World) (K : Bool → World → Prop) : Prop :=
  nw 24 (A23 p0_0 p0_1 p0_2 p0_3 p0_4 p0_5 p0_6 p0_7 p0_8 p0_9 p0_10 p0_11 p0_12 p0_13 p0_14 p0_15 p0_16 p0_17 p0_18 p0_19 p0_20 p0_21) w0 fun b1 w1 =>
  nw 24 (A23 p1_0 p1_1 p1_2 p1_3 p1_4 p1_5 p1_6 p1_7 p1_8 p1_9 p1_10 p1_11 p1_12 p1_13 p1_14 p1_15 p1_16 p1_17 p1_18 p1_19 p1_20 p1_21) w1 fun b2 w2 =>
  callC Try.prog 8 #[] (fun (r : Bool) => (Value.bool r)) w2 fun r3 w3 =>
  L23 (Addr.mk b1 0 none) w3 fun x4 x5 x6 x7 x8 x9 x10 x11 x12 x13 x14 x15 x16 x17 x18 x19 x20 x21 x22 x23 x24 x25 =>
  L23 (Addr.mk b2 0 none) w3 fun x26 x27 x28 x29 x30 x31 x32 x33 x34 x35 x36 x37 x38 x39 x40 x41 x42 x43 x44 x45 x46 x47 =>
  L23 (Addr.mk b1 0 none) w3 fun x48 x49 x50 x51 x52 x53 x54 x55 x56 x57 x58 x59 x60 x61 x62 x63 x64 x65 x66 x67 x68 x69 =>
  callC Try.prog 9 #[(V23 x4 x5 x6 x7 x8 x9 x10 x11 x12 x13 x14 x15 x16 x17 x18 x19 x20 x21 x22 x23 x24 x25), (V23 x26 x27 x28 x29 x30 x31 x32 x33 x34 x35 x36 x37 x38 x39 x40 x41 x42 x43 x44 x45 x46 x47), (V23 x48 x49 x50 x51 x52 x53 x54 x55 x56 x57 x58 x59 x60 x61 x62 x63 x64 x65 x66 x67 x68 x69)] (fun (r : Bool) => (Value.bool r)) w3 fun r70 w4 =>
  jn (fun J71 => cnd (!r70)
    (
    J71 true w4
    )
    (
    L23 (Addr.mk b1 0 none) w4 fun x73 x74 x75 x76 x77 x78 x79 x80 x81 x82 x83 x84 x85 x86 x87 x88 x89 x90 x91 x92 x93 x94 =>
    L23 (Addr.mk b2 0 none) w4 fun x95 x96 x97 x98 x99 x100 x101 x102 x103 x104 x105 x106 x107 x108 x109 x110 x111 x112 x113 x114 x115 x116 =>
    L23 (Addr.mk b1 0 none) w4 fun x117 x118 x119 x120 x121 x122 x123 x124 x125 x126 x127 x128 x129 x130 x131 x132 x133 x134 x135 x136 x137 x138 =>
    callC Try.prog 19 #[(V23 x73 x74 x75 x76 x77 x78 x79 x80 x81 x82 x83 x84 x85 x86 x87 x88 x89 x90 x91 x92 x93 x94), (V23 x95 x96 x97 x98 x99 x100 x101 x102 x103 x104 x105 x106 x107 x108 x109 x110 x111 x112 x113 x114 x115 x116), (V23 x117 x118 x119 x120 x121 x122 x123 x124 x125 x126 x127 x128 x129 x130 x131 x132 x133 x134 x135 x136 x137 x138)] (fun (r : Bool) => (Value.bool r)) w4 fun r139 w5 =>
    J71 (!r139) w5
    ))
  fun c140 w6 =>
  cnd (c140)
    (
    K r3 w6
    )
    (
    L23 (Addr.mk b1 0 none) w6 fun x142 x143 x144 x145 x146 x147 x148 x149 x150 x151 x152 x153 x154 x155 x156 x157 x158 x159 x160 x161 x162 x163 =>
    L23 (Addr.mk b2 0 none) w6 fun x164 x165 x166 x167 x168 x169 x170 x171 x172 x173 x174 x175 x176 x177 x178 x179 x180 x181 x182 x183 x184 x185 =>
    callC Try.prog 15 #[(V23 x142 x143 x144 x145 x146 x147 x148 x149 x150 x151 x152 x153 x154 x155 x156 x157 x158 x159 x160 x161 x162 x163), (V23 x164 x165 x166 x167 x168 x169 x170 x171 x172 x173 x174 x175 x176 x177 x178 x179 x180 x181 x182 x183 x184 x185)] E23 w6 fun r186 w7 =>
    nw 24 (A23 (ByteArray.mk #[]) 0 0 0 false 0 false false 0 0 0 0 Sl.nil 0 0 0 0 false 0 0 0 0) w7 fun b187 w8 =>
    st (Addr.mk b187 0 none) (S23 r186.1 r186.2.1 r186.2.2.1 r186.2.2.2.1 r186.2.2.2.2.1 r186.2.2.2.2.2.1 r186.2.2.2.2.2.2.1 r186.2.2.2.2.2.2.2.1 r186.2.2.2.2.2.2.2.2.1 r186.2.2.2.2.2.2.2.2.2.1 r186.2.2.2.2.2.2.2.2.2.2.1 r186.2.2.2.2.2.2.2.2.2.2.2.1 r186.2.2.2.2.2.2.2.2.2.2.2.2.1 r186.2.2.2.2.2.2.2.2.2.2.2.2.2.1 r186.2.2.2.2.2.2.2.2.2.2.2.2.2.2.1 r186.2.2.2.2.2.2.2.2.2.2.2.2.2.2.2.1 r186.2.2.2.2.2.2.2.2.2.2.2.2.2.2.2.2.1 r186.2.2.2.2.2.2.2.2.2.2.2.2.2.2.2.2.2.1 r186.2.2.2.2.2.2.2.2.2.2.2.2.2.2.2.2.2.2.1 r186.2.2.2.2.2.2.2.2.2.2.2.2.2.2.2.2.2.2.2.1 r186.2.2.2.2.2.2.2.2.2.2.2.2.2.2.2.2.2.2.2.2.1 r186.2.2.2.2.2.2.2.2.2.2.2.2.2.2.2.2.2.2.2.2.2) w8 fun w9 =>
    L23 (Addr.mk b1 0 none) w9 fun x189 x190 x191 x192 x193 x194 x195 x196 x197 x198 x199 x200 x201 x202 x203 x204 x205 x206 x207 x208 x209 x210 =>
    L23 (Addr.mk b2 0 none) w9 fun x211 x212 x213 x214 x215 x216 x217 x218 x219 x220 x221 x222 x223 x224 x225 x226 x227 x228 x229 x230 x231 x232 =>
    callC Try.prog 17 #[(V23 x189 x190 x191 x192 x193 x194 x195 x196 x197 x198 x199 x200 x201 x202 x203 x204 x205 x206 x207 x208 x209 x210), (V23 x211 x212 x213 x214 x215 x216 x217 x218 x219 x220 x221 x222 x223 x224 x225 x226 x227 x228 x229 x230 x231 x232)] E23 w9 fun r233 w10 =>
    nw 24 (A23 (ByteArray.mk #[]) 0 0 0 false 0 false false 0 0 0 0 Sl.nil 0 0 0 0 false 0 0 0 0) w10 fun b234 w11 =>
    st (Addr.mk b234 0 none) (S23 r233.1 r233.2.1 r233.2.2.1 r233.2.2.2.1 r233.2.2.2.2.1 r233.2.2.2.2.2.1 r233.2.2.2.2.2.2.1 r233.2.2.2.2.2.2.2.1 r233.2.2.2.2.2.2.2.2.1 r233.2.2.2.2.2.2.2.2.2.1 r233.2.2.2.2.2.2.2.2.2.2.1 r233.2.2.2.2.2.2.2.2.2.2.2.1 r233.2.2.2.2.2.2.2.2.2.2.2.2.1 r233.2.2.2.2.2.2.2.2.2.2.2.2.2.1 r233.2.2.2.2.2.2.2.2.2.2.2.2.2.2.1 r233.2.2.2.2.2.2.2.2.2.2.2.2.2.2.2.1 r233.2.2.2.2.2.2.2.2.2.2.2.2.2.2.2.2.1 r233.2.2.2.2.2.2.2.2.2.2.2.2.2.2.2.2.2.1 r233.2.2.2.2.2.2.2.2.2.2.2.2.2.2.2.2.2.2.1 r233.2.2.2.2.2.2.2.2.2.2.2.2.2.2.2.2.2.2.2.1 r233.2.2.2.2.2.2.2.2.2.2.2.2.2.2.2.2.2.2.2.2.1 r233.2.2.2.2.2.2.2.2.2.2.2.2.2.2.2.2.2.2.2.2.2) w11 fun w12 =>
    jn (fun (J237 : Bool → World → Prop) => tk w12 fun w13 =>
      L23 (Addr.mk b1 0 none) w13 fun x238 x239 x240 x241 x242 x243 x244 x245 x246 x247 x248 x249 x250 x251 x252 x253 x254 x255 x256 x257 x258 x259 =>
      L23 (Addr.mk b1 0 none) w13 fun x260 x261 x262 x263 x264 x265 x266 x267 x268 x269 x270 x271 x272 x273 x274 x275 x276 x277 x278 x279 x280 x281 =>
      L23 (Addr.mk b1 0 none) w13 fun x282 x283 x284 x285 x286 x287 x288 x289 x290 x291 x292 x293 x294 x295 x296 x297 x298 x299 x300 x301 x302 x303 =>
      callC Try.prog 15 #[(V23 x238 x239 x240 x241 x242 x243 x244 x245 x246 x247 x248 x249 x250 x251 x252 x253 x254 x255 x256 x257 x258 x259), (V23 x260 x261 x262 x263 x264 x265 x266 x267 x268 x269 x270 x271 x272 x273 x274 x275 x276 x277 x278 x279 x280 x281)] E23 w13 fun r304 w14 =>
      (C23 (Addr.mk b1 0 none) x282 x283 x284 x285 x286 x287 x288 x289 x290 x291 x292 x293 x294 x295 x296 x297 x298 x299 x300 x301 x302 x303 w14) ∧
      callC Try.prog 14 #[(V23 r304.1 r304.2.1 r304.2.2.1 r304.2.2.2.1 r304.2.2.2.2.1 r304.2.2.2.2.2.1 r304.2.2.2.2.2.2.1 r304.2.2.2.2.2.2.2.1 r304.2.2.2.2.2.2.2.2.1 r304.2.2.2.2.2.2.2.2.2.1 r304.2.2.2.2.2.2.2.2.2.2.1 r304.2.2.2.2.2.2.2.2.2.2.2.1 r304.2.2.2.2.2.2.2.2.2.2.2.2.1 r304.2.2.2.2.2.2.2.2.2.2.2.2.2.1 r304.2.2.2.2.2.2.2.2.2.2.2.2.2.2.1 r304.2.2.2.2.2.2.2.2.2.2.2.2.2.2.2.1 r304.2.2.2.2.2.2.2.2.2.2.2.2.2.2.2.2.1 r304.2.2.2.2.2.2.2.2.2.2.2.2.2.2.2.2.2.1 r304.2.2.2.2.2.2.2.2.2.2.2.2.2.2.2.2.2.2.1 r304.2.2.2.2.2.2.2.2.2.2.2.2.2.2.2.2.2.2.2.1 r304.2.2.2.2.2.2.2.2.2.2.2.2.2.2.2.2.2.2.2.2.1 r304.2.2.2.2.2.2.2.2.2.2.2.2.2.2.2.2.2.2.2.2.2), (V23 x282 x283 x284 x285 x286 x287 x288 x289 x290 x291 x292 x293 x294 x295 x296 x297 x298 x299 x300 x301 x302 x303)] (fun (r : Bool) => (Value.bool r)) w14 fun r305 w15 =>
      cnd (!r305)
        (
        J237 true w15
        )
        (
        L23 (Addr.mk b1 0 none) w15 fun x307 x308 x309 x310 x311 x312 x313 x314 x315 x316 x317 x318 x319 x320 x321 x322 x323 x324 x325 x326 x327 x328 =>
        L23 (Addr.mk b1 0 none) w15 fun x329 x330 x331 x332 x333 x334 x335 x336 x337 x338 x339 x340 x341 x342 x343 x344 x345 x346 x347 x348 x349 x350 =>
        L23 (Addr.mk b1 0 none) w15 fun x351 x352 x353 x354 x355 x356 x357 x358 x359 x360 x361 x362 x363 x364 x365 x366 x367 x368 x369 x370 x371 x372 =>
        callC Try.prog 17 #[(V23 x307 x308 x309 x310 x311 x312 x313 x314 x315 x316 x317 x318 x319 x320 x321 x322 x323 x324 x325 x326 x327 x328), (V23 x329 x330 x331 x332 x333 x334 x335 x336 x337 x338 x339 x340 x341 x342 x343 x344 x345 x346 x347 x348 x349 x350)] E23 w15 fun r373 w16 =>
        (C23 (Addr.mk b1 0 none) x351 x352 x353 x354 x355 x356 x357 x358 x359 x360 x361 x362 x363 x364 x365 x366 x367 x368 x369 x370 x371 x372 w16) ∧
        callC Try.prog 14 #[(V23 r373.1 r373.2.1 r373.2.2.1 r373.2.2.2.1 r373.2.2.2.2.1 r373.2.2.2.2.2.1 r373.2.2.2.2.2.2.1 r373.2.2.2.2.2.2.2.1 r373.2.2.2.2.2.2.2.2.1 r373.2.2.2.2.2.2.2.2.2.1 r373.2.2.2.2.2.2.2.2.2.2.1 r373.2.2.2.2.2.2.2.2.2.2.2.1 r373.2.2.2.2.2.2.2.2.2.2.2.2.1 r373.2.2.2.2.2.2.2.2.2.2.2.2.2.1 r373.2.2.2.2.2.2.2.2.2.2.2.2.2.2.1 r373.2.2.2.2.2.2.2.2.2.2.2.2.2.2.2.1 r373.2.2.2.2.2.2.2.2.2.2.2.2.2.2.2.2.1 r373.2.2.2.2.2.2.2.2.2.2.2.2.2.2.2.2.2.1 r373.2.2.2.2.2.2.2.2.2.2.2.2.2.2.2.2.2.2.1 r373.2.2.2.2.2.2.2.2.2.2.2.2.2.2.2.2.2.2.2.1 r373.2.2.2.2.2.2.2.2.2.2.2.2.2.2.2.2.2.2.2.2.1 r373.2.2.2.2.2.2.2.2.2.2.2.2.2.2.2.2.2.2.2.2.2), (V23 x351 x352 x353 x354 x355 x356 x357 x358 x359 x360 x361 x362 x363 x364 x365 x366 x367 x368 x369 x370 x371 x372)] (fun (r : Bool) => (Value.bool r)) w16 fun r374 w17 =>
        cnd (!r374)
          (
          J237 true w17
          )
          (
          L23 (Addr.mk b187 0 none) w17 fun x376 x377 x378 x379 x380 x381 x382 x383 x384 x385 x386 x387 x388 x389 x390 x391 x392 x393 x394 x395 x396 x397 =>
          L23 (Addr.mk b2 0 none) w17 fun x398 x399 x400 x401 x402 x403 x404 x405 x406 x407 x408 x409 x410 x411 x412 x413 x414 x415 x416 x417 x418 x419 =>
          L23 (Addr.mk b1 0 none) w17 fun x420 x421 x422 x423 x424 x425 x426 x427 x428 x429 x430 x431 x432 x433 x434 x435 x436 x437 x438 x439 x440 x441 =>
          callC Try.prog 15 #[(V23 x398 x399 x400 x401 x402 x403 x404 x405 x406 x407 x408 x409 x410 x411 x412 x413 x414 x415 x416 x417 x418 x419), (V23 x420 x421 x422 x423 x424 x425 x426 x427 x428 x429 x430 x431 x432 x433 x434 x435 x436 x437 x438 x439 x440 x441)] E23 w17 fun r442 w18 =>
          (C23 (Addr.mk b187 0 none) x376 x377 x378 x379 x380 x381 x382 x383 x384 x385 x386 x387 x388 x389 x390 x391 x392 x393 x394 x395 x396 x397 w18) ∧
          callC Try.prog 20 #[(V23 x376 x377 x378 x379 x380 x381 x382 x383 x384 x385 x386 x387 x388 x389 x390 x391 x392 x393 x394 x395 x396 x397), (V23 r442.1 r442.2.1 r442.2.2.1 r442.2.2.2.1 r442.2.2.2.2.1 r442.2.2.2.2.2.1 r442.2.2.2.2.2.2.1 r442.2.2.2.2.2.2.2.1 r442.2.2.2.2.2.2.2.2.1 r442.2.2.2.2.2.2.2.2.2.1 r442.2.2.2.2.2.2.2.2.2.2.1 r442.2.2.2.2.2.2.2.2.2.2.2.1 r442.2.2.2.2.2.2.2.2.2.2.2.2.1 r442.2.2.2.2.2.2.2.2.2.2.2.2.2.1 r442.2.2.2.2.2.2.2.2.2.2.2.2.2.2.1 r442.2.2.2.2.2.2.2.2.2.2.2.2.2.2.2.1 r442.2.2.2.2.2.2.2.2.2.2.2.2.2.2.2.2.1 r442.2.2.2.2.2.2.2.2.2.2.2.2.2.2.2.2.2.1 r442.2.2.2.2.2.2.2.2.2.2.2.2.2.2.2.2.2.2.1 r442.2.2.2.2.2.2.2.2.2.2.2.2.2.2.2.2.2.2.2.1 r442.2.2.2.2.2.2.2.2.2.2.2.2.2.2.2.2.2.2.2.2.1 r442.2.2.2.2.2.2.2.2.2.2.2.2.2.2.2.2.2.2.2.2.2)] (fun (r : Bool) => (Value.bool r)) w18 fun r443 w19 =>
          cnd (!r443)
            (
            J237 true w19
            )
            (
            L23 (Addr.mk b234 0 none) w19 fun x445 x446 x447 x448 x449 x450 x451 x452 x453 x454 x455 x456 x457 x458 x459 x460 x461 x462 x463 x464 x465 x466 =>
            L23 (Addr.mk b2 0 none) w19 fun x467 x468 x469 x470 x471 x472 x473 x474 x475 x476 x477 x478 x479 x480 x481 x482 x483 x484 x485 x486 x487 x488 =>
            L23 (Addr.mk b1 0 none) w19 fun x489 x490 x491 x492 x493 x494 x495 x496 x497 x498 x499 x500 x501 x502 x503 x504 x505 x506 x507 x508 x509 x510 =>
            callC Try.prog 17 #[(V23 x467 x468 x469 x470 x471 x472 x473 x474 x475 x476 x477 x478 x479 x480 x481 x482 x483 x484 x485 x486 x487 x488), (V23 x489 x490 x491 x492 x493 x494 x495 x496 x497 x498 x499 x500 x501 x502 x503 x504 x505 x506 x507 x508 x509 x510)] E23 w19 fun r511 w20 =>
            (C23 (Addr.mk b234 0 none) x445 x446 x447 x448 x449 x450 x451 x452 x453 x454 x455 x456 x457 x458 x459 x460 x461 x462 x463 x464 x465 x466 w20) ∧
            callC Try.prog 20 #[(V23 x445 x446 x447 x448 x449 x450 x451 x452 x453 x454 x455 x456 x457 x458 x459 x460 x461 x462 x463 x464 x465 x466), (V23 r511.1 r511.2.1 r511.2.2.1 r511.2.2.2.1 r511.2.2.2.2.1 r511.2.2.2.2.2.1 r511.2.2.2.2.2.2.1 r511.2.2.2.2.2.2.2.1 r511.2.2.2.2.2.2.2.2.1 r511.2.2.2.2.2.2.2.2.2.1 r511.2.2.2.2.2.2.2.2.2.2.1 r511.2.2.2.2.2.2.2.2.2.2.2.1 r511.2.2.2.2.2.2.2.2.2.2.2.2.1 r511.2.2.2.2.2.2.2.2.2.2.2.2.2.1 r511.2.2.2.2.2.2.2.2.2.2.2.2.2.2.1 r511.2.2.2.2.2.2.2.2.2.2.2.2.2.2.2.1 r511.2.2.2.2.2.2.2.2.2.2.2.2.2.2.2.2.1 r511.2.2.2.2.2.2.2.2.2.2.2.2.2.2.2.2.2.1 r511.2.2.2.2.2.2.2.2.2.2.2.2.2.2.2.2.2.2.1 r511.2.2.2.2.2.2.2.2.2.2.2.2.2.2.2.2.2.2.2.1 r511.2.2.2.2.2.2.2.2.2.2.2.2.2.2.2.2.2.2.2.2.1 r511.2.2.2.2.2.2.2.2.2.2.2.2.2.2.2.2.2.2.2.2.2)] (fun (r : Bool) => (Value.bool r)) w20 fun r512 w21 =>
            J237 (!r512) w21
            )
          )
        )
    )
    fun l513 w22 =>
    cnd (l513)
      (
      K false w22
      )
      (
      jn (fun (J516 : Bool → World → Prop) => tk w22 fun w23 =>
        L23 (Addr.mk b1 0 none) w23 fun x517 x518 x519 x520 x521 x522 x523 x524 x525 x526 x527 x528 x529 x530 x531 x532 x533 x534 x535 x536 x537 x538 =>
        L23 (Addr.mk b234 0 none) w23 fun x539 x540 x541 x542 x543 x544 x545 x546 x547 x548 x549 x550 x551 x552 x553 x554 x555 x556 x557 x558 x559 x560 =>
        L23 (Addr.mk b1 0 none) w23 fun x561 x562 x563 x564 x565 x566 x567 x568 x569 x570 x571 x572 x573 x574 x575 x576 x577 x578 x579 x580 x581 x582 =>
        callC Try.prog 15 #[(V23 x517 x518 x519 x520 x521 x522 x523 x524 x525 x526 x527 x528 x529 x530 x531 x532 x533 x534 x535 x536 x537 x538), (V23 x539 x540 x541 x542 x543 x544 x545 x546 x547 x548 x549 x550 x551 x552 x553 x554 x555 x556 x557 x558 x559 x560)] E23 w23 fun r583 w24 =>
        (C23 (Addr.mk b1 0 none) x561 x562 x563 x564 x565 x566 x567 x568 x569 x570 x571 x572 x573 x574 x575 x576 x577 x578 x579 x580 x581 x582 w24) ∧
        callC Try.prog 14 #[(V23 r583.1 r583.2.1 r583.2.2.1 r583.2.2.2.1 r583.2.2.2.2.1 r583.2.2.2.2.2.1 r583.2.2.2.2.2.2.1 r583.2.2.2.2.2.2.2.1 r583.2.2.2.2.2.2.2.2.1 r583.2.2.2.2.2.2.2.2.2.1 r583.2.2.2.2.2.2.2.2.2.2.1 r583.2.2.2.2.2.2.2.2.2.2.2.1 r583.2.2.2.2.2.2.2.2.2.2.2.2.1 r583.2.2.2.2.2.2.2.2.2.2.2.2.2.1 r583.2.2.2.2.2.2.2.2.2.2.2.2.2.2.1 r583.2.2.2.2.2.2.2.2.2.2.2.2.2.2.2.1 r583.2.2.2.2.2.2.2.2.2.2.2.2.2.2.2.2.1 r583.2.2.2.2.2.2.2.2.2.2.2.2.2.2.2.2.2.1 r583.2.2.2.2.2.2.2.2.2.2.2.2.2.2.2.2.2.2.1 r583.2.2.2.2.2.2.2.2.2.2.2.2.2.2.2.2.2.2.2.1 r583.2.2.2.2.2.2.2.2.2.2.2.2.2.2.2.2.2.2.2.2.1 r583.2.2.2.2.2.2.2.2.2.2.2.2.2.2.2.2.2.2.2.2.2), (V23 x561 x562 x563 x564 x565 x566 x567 x568 x569 x570 x571 x572 x573 x574 x575 x576 x577 x578 x579 x580 x581 x582)] (fun (r : Bool) => (Value.bool r)) w24 fun r584 w25 =>
        cnd (!r584)
          (
          J516 true w25
          )
          (
          L23 (Addr.mk b1 0 none) w25 fun x586 x587 x588 x589 x590 x591 x592 x593 x594 x595 x596 x597 x598 x599 x600 x601 x602 x603 x604 x605 x606 x607 =>
          L23 (Addr.mk b187 0 none) w25 fun x608 x609 x610 x611 x612 x613 x614 x615 x616 x617 x618 x619 x620 x621 x622 x623 x624 x625 x626 x627 x628 x629 =>
          L23 (Addr.mk b1 0 none) w25 fun x630 x631 x632 x633 x634 x635 x636 x637 x638 x639 x640 x641 x642 x643 x644 x645 x646 x647 x648 x649 x650 x651 =>
          callC Try.prog 17 #[(V23 x586 x587 x588 x589 x590 x591 x592 x593 x594 x595 x596 x597 x598 x599 x600 x601 x602 x603 x604 x605 x606 x607), (V23 x608 x609 x610 x611 x612 x613 x614 x615 x616 x617 x618 x619 x620 x621 x622 x623 x624 x625 x626 x627 x628 x629)] E23 w25 fun r652 w26 =>
          (C23 (Addr.mk b1 0 none) x630 x631 x632 x633 x634 x635 x636 x637 x638 x639 x640 x641 x642 x643 x644 x645 x646 x647 x648 x649 x650 x651 w26) ∧
          callC Try.prog 14 #[(V23 r652.1 r652.2.1 r652.2.2.1 r652.2.2.2.1 r652.2.2.2.2.1 r652.2.2.2.2.2.1 r652.2.2.2.2.2.2.1 r652.2.2.2.2.2.2.2.1 r652.2.2.2.2.2.2.2.2.1 r652.2.2.2.2.2.2.2.2.2.1 r652.2.2.2.2.2.2.2.2.2.2.1 r652.2.2.2.2.2.2.2.2.2.2.2.1 r652.2.2.2.2.2.2.2.2.2.2.2.2.1 r652.2.2.2.2.2.2.2.2.2.2.2.2.2.1 r652.2.2.2.2.2.2.2.2.2.2.2.2.2.2.1 r652.2.2.2.2.2.2.2.2.2.2.2.2.2.2.2.1 r652.2.2.2.2.2.2.2.2.2.2.2.2.2.2.2.2.1 r652.2.2.2.2.2.2.2.2.2.2.2.2.2.2.2.2.2.1 r652.2.2.2.2.2.2.2.2.2.2.2.2.2.2.2.2.2.2.1 r652.2.2.2.2.2.2.2.2.2.2.2.2.2.2.2.2.2.2.2.1 r652.2.2.2.2.2.2.2.2.2.2.2.2.2.2.2.2.2.2.2.2.1 r652.2.2.2.2.2.2.2.2.2.2.2.2.2.2.2.2.2.2.2.2.2), (V23 x630 x631 x632 x633 x634 x635 x636 x637 x638 x639 x640 x641 x642 x643 x644 x645 x646 x647 x648 x649 x650 x651)] (fun (r : Bool) => (Value.bool r)) w26 fun r653 w27 =>
          J516 (!r653) w27
          )
      )
      fun l654 w28 =>
      cnd (l654)
        (
        K false w28
        )
        (
        L23 (Addr.mk b1 0 none) w28 fun x656 x657 x658 x659 x660 x661 x662 x663 x664 x665 x666 x667 x668 x669 x670 x671 x672 x673 x674 x675 x676 x677 =>
        L23 (Addr.mk b2 0 none) w28 fun x678 x679 x680 x681 x682 x683 x684 x685 x686 x687 x688 x689 x690 x691 x692 x693 x694 x695 x696 x697 x698 x699 =>
        callC Try.prog 12 #[(V23 x656 x657 x658 x659 x660 x661 x662 x663 x664 x665 x666 x667 x668 x669 x670 x671 x672 x673 x674 x675 x676 x677), (V23 x678 x679 x680 x681 x682 x683 x684 x685 x686 x687 x688 x689 x690 x691 x692 x693 x694 x695 x696 x697 x698 x699)] (fun (r : Bool) => (Value.bool r)) w28 fun r700 w29 =>
        jn (fun J701 => cnd (r3)
          (
          L23 (Addr.mk b187 0 none) w29 fun x703 x704 x705 x706 x707 x708 x709 x710 x711 x712 x713 x714 x715 x716 x717 x718 x719 x720 x721 x722 x723 x724 =>
          L23 (Addr.mk b1 0 none) w29 fun x725 x726 x727 x728 x729 x730 x731 x732 x733 x734 x735 x736 x737 x738 x739 x740 x741 x742 x743 x744 x745 x746 =>
          callC Try.prog 20 #[(V23 x703 x704 x705 x706 x707 x708 x709 x710 x711 x712 x713 x714 x715 x716 x717 x718 x719 x720 x721 x722 x723 x724), (V23 x725 x726 x727 x728 x729 x730 x731 x732 x733 x734 x735 x736 x737 x738 x739 x740 x741 x742 x743 x744 x745 x746)] (fun (r : Bool) => (Value.bool r)) w29 fun r747 w30 =>
          J701 (r700 == r747) w30
          )
          (
          J701 false w29
          ))
        fun c748 w31 =>
        jn (fun J749 => cnd (c748)
          (
          L23 (Addr.mk b234 0 none) w31 fun x751 x752 x753 x754 x755 x756 x757 x758 x759 x760 x761 x762 x763 x764 x765 x766 x767 x768 x769 x770 x771 x772 =>
          L23 (Addr.mk b2 0 none) w31 fun x773 x774 x775 x776 x777 x778 x779 x780 x781 x782 x783 x784 x785 x786 x787 x788 x789 x790 x791 x792 x793 x794 =>
          callC Try.prog 20 #[(V23 x751 x752 x753 x754 x755 x756 x757 x758 x759 x760 x761 x762 x763 x764 x765 x766 x767 x768 x769 x770 x771 x772), (V23 x773 x774 x775 x776 x777 x778 x779 x780 x781 x782 x783 x784 x785 x786 x787 x788 x789 x790 x791 x792 x793 x794)] (fun (r : Bool) => (Value.bool r)) w31 fun r795 w32 =>
          J749 (r700 == r795) w32
          )
          (
          J749 false w31
          ))
        fun c796 w33 =>
        K c796 w33
        )
      )
    )
set_option maxRecDepth 100000 in
theorem D7 (p0_0 : ByteArray) (p0_1 : Int) (p0_2 : Int) (p0_3 : Int) (p0_4 : Bool) (p0_5 : Int) (p0_6 : Bool) (p0_7 : Bool) (p0_8 : Int) (p0_9 : Int) (p0_10 : Int) (p0_11 : Int) (p0_12 : Sl) (p0_13 : Int) (p0_14 : Int) (p0_15 : Int) (p0_16 : Int) (p0_17 : Bool) (p0_18 : Int) (p0_19 : Int) (p0_20 : Int) (p0_21 : Int) (p1_0 : ByteArray) (p1_1 : Int) (p1_2 : Int) (p1_3 : Int) (p1_4 : Bool) (p1_5 : Int) (p1_6 : Bool) (p1_7 : Bool) (p1_8 : Int) (p1_9 : Int) (p1_10 : Int) (p1_11 : Int) (p1_12 : Sl) (p1_13 : Int) (p1_14 : Int) (p1_15 : Int) (p1_16 : Int) (p1_17 : Bool) (p1_18 : Int) (p1_19 : Int) (p1_20 : Int) (p1_21 : Int) (w0 : World) (K : Bool → World → Prop) (h : F7 p0_0 p0_1 p0_2 p0_3 p0_4 p0_5 p0_6 p0_7 p0_8 p0_9 p0_10 p0_11 p0_12 p0_13 p0_14 p0_15 p0_16 p0_17 p0_18 p0_19 p0_20 p0_21 p1_0 p1_1 p1_2 p1_3 p1_4 p1_5 p1_6 p1_7 p1_8 p1_9 p1_10 p1_11 p1_12 p1_13 p1_14 p1_15 p1_16 p1_17 p1_18 p1_19 p1_20 p1_21 w0 K) : callC Try.prog 7 #[(V23 p0_0 p0_1 p0_2 p0_3 p0_4 p0_5 p0_6 p0_7 p0_8 p0_9 p0_10 p0_11 p0_12 p0_13 p0_14 p0_15 p0_16 p0_17 p0_18 p0_19 p0_20 p0_21), (V23 p1_0 p1_1 p1_2 p1_3 p1_4 p1_5 p1_6 p1_7 p1_8 p1_9 p1_10 p1_11 p1_12 p1_13 p1_14 p1_15 p1_16 p1_17 p1_18 p1_19 p1_20 p1_21)] (fun (r : Bool) => (Value.bool r)) w0 K := by
  unfold F7 at h
  refine calls_of_wpC Try.func7 rfl 91 rfl (by simp) ?_
  intro ρ hρ
  have e0 : ρ 0 = (V23 p0_0 p0_1 p0_2 p0_3 p0_4 p0_5 p0_6 p0_7 p0_8 p0_9 p0_10 p0_11 p0_12 p0_13 p0_14 p0_15 p0_16 p0_17 p0_18 p0_19 p0_20 p0_21) := hρ 0
  have e1 : ρ 1 = (V23 p1_0 p1_1 p1_2 p1_3 p1_4 p1_5 p1_6 p1_7 p1_8 p1_9 p1_10 p1_11 p1_12 p1_13 p1_14 p1_15 p1_16 p1_17 p1_18 p1_19 p1_20 p1_21) := hρ 1
  clear hρ
  refine wpC_seq ?_
  refine wpC_region ?_
  obtain ⟨b1, hb1⟩ : ∃ u, u = w0.heap.size := ⟨_, rfl⟩
  obtain ⟨w1, hw1⟩ : ∃ u, u = w0.alloc (.cells (A23 p0_0 p0_1 p0_2 p0_3 p0_4 p0_5 p0_6 p0_7 p0_8 p0_9 p0_10 p0_11 p0_12 p0_13 p0_14 p0_15 p0_16 p0_17 p0_18 p0_19 p0_20 p0_21) 24) := ⟨_, rfl⟩
  replace h := h b1 w1 hb1 hw1
  refine wpR_val (v := (Value.pointer (some (Addr.mk b1 0 none)))) (w' := w1) rfl rfl rfl ((x_box (v := (V23 p0_0 p0_1 p0_2 p0_3 p0_4 p0_5 p0_6 p0_7 p0_8 p0_9 p0_10 p0_11 p0_12 p0_13 p0_14 p0_15 p0_16 p0_17 p0_18 p0_19 p0_20 p0_21)) rfl e0).trans (by rw [hb1, hw1]; rfl)) ?_
  obtain ⟨b2, hb2⟩ : ∃ u, u = w1.heap.size := ⟨_, rfl⟩
  obtain ⟨w2, hw2⟩ : ∃ u, u = w1.alloc (.cells (A23 p1_0 p1_1 p1_2 p1_3 p1_4 p1_5 p1_6 p1_7 p1_8 p1_9 p1_10 p1_11 p1_12 p1_13 p1_14 p1_15 p1_16 p1_17 p1_18 p1_19 p1_20 p1_21) 24) := ⟨_, rfl⟩
  replace h := h b2 w2 hb2 hw2
  refine wpR_val (v := (Value.pointer (some (Addr.mk b2 0 none)))) (w' := w2) rfl rfl rfl ((x_box (v := (V23 p1_0 p1_1 p1_2 p1_3 p1_4 p1_5 p1_6 p1_7 p1_8 p1_9 p1_10 p1_11 p1_12 p1_13 p1_14 p1_15 p1_16 p1_17 p1_18 p1_19 p1_20 p1_21)) rfl e1).trans (by rw [hb2, hw2]; rfl)) ?_
  refine wpR_val (v := (Value.bool false)) (w' := w2) rfl rfl rfl (x_assign (v := (Value.bool false)) rfl rfl) ?_
  refine wpR_nil ?_
  refine wpC_seq ?_
  refine wpC_cut (fun ρ => ρ 2 = (Value.pointer (some (Addr.mk b1 0 none))) ∧ ρ 3 = (Value.pointer (some (Addr.mk b2 0 none))) ∧ True) ⟨rfl, rfl, trivial⟩ ?_
  rintro ρ ⟨e2, e3, -⟩
  refine wpC_region ?_
  refine wpR_enter rfl rfl rfl (x_call (vs := []) rfl rfl mapl_nil Try.func8 NN_8 NB_8) (Calls.mono h ?_)
  rintro _ w3 ⟨r3, rfl, h⟩
  refine ⟨_, rfl, ?_⟩
  refine wpR_val (v := (Value.bool r3)) (w' := w3) rfl rfl rfl (x_assign (v := (Value.bool r3)) rfl rfl) ?_
  refine wpR_nil ?_
  refine wpC_seq ?_
  refine wpC_seq ?_
  refine wpC_cut (fun ρ => ρ 2 = (Value.pointer (some (Addr.mk b1 0 none))) ∧ ρ 3 = (Value.pointer (some (Addr.mk b2 0 none))) ∧ ρ 5 = (Value.bool r3) ∧ True) ⟨e2, e3, rfl, trivial⟩ ?_
  rintro ρ ⟨e2, e3, e5, -⟩
  refine wpC_region ?_
  obtain ⟨x4, q4, x5, q5, x6, q6, x7, q7, x8, q8, x9, q9, x10, q10, x11, q11, x12, q12, x13, q13, x14, q14, x15, q15, x16, q16, x17, q17, x18, q18, x19, q19, x20, q20, x21, q21, x22, q22, x23, q23, x24, q24, x25, q25, h⟩ := h
  refine wpR_val (v := (V23 x4 x5 x6 x7 x8 x9 x10 x11 x12 x13 x14 x15 x16 x17 x18 x19 x20 x21 x22 x23 x24 x25)) (w' := w3) rfl rfl rfl (x_loadN (S23 x4 x5 x6 x7 x8 x9 x10 x11 x12 x13 x14 x15 x16 x17 x18 x19 x20 x21 x22 x23 x24 x25) rfl e2 SH_24 (K23 ⟨q4, q5, q6, q7, q8, q9, q10, q11, q12, q13, q14, q15, q16, q17, q18, q19, q20, q21, q22, q23, q24, q25⟩)) ?_
  obtain ⟨x26, q26, x27, q27, x28, q28, x29, q29, x30, q30, x31, q31, x32, q32, x33, q33, x34, q34, x35, q35, x36, q36, x37, q37, x38, q38, x39, q39, x40, q40, x41, q41, x42, q42, x43, q43, x44, q44, x45, q45, x46, q46, x47, q47, h⟩ := h
  refine wpR_val (v := (V23 x26 x27 x28 x29 x30 x31 x32 x33 x34 x35 x36 x37 x38 x39 x40 x41 x42 x43 x44 x45 x46 x47)) (w' := w3) rfl rfl rfl (x_loadN (S23 x26 x27 x28 x29 x30 x31 x32 x33 x34 x35 x36 x37 x38 x39 x40 x41 x42 x43 x44 x45 x46 x47) rfl e3 SH_24 (K23 ⟨q26, q27, q28, q29, q30, q31, q32, q33, q34, q35, q36, q37, q38, q39, q40, q41, q42, q43, q44, q45, q46, q47⟩)) ?_
  obtain ⟨x48, q48, x49, q49, x50, q50, x51, q51, x52, q52, x53, q53, x54, q54, x55, q55, x56, q56, x57, q57, x58, q58, x59, q59, x60, q60, x61, q61, x62, q62, x63, q63, x64, q64, x65, q65, x66, q66, x67, q67, x68, q68, x69, q69, h⟩ := h
  refine wpR_val (v := (V23 x48 x49 x50 x51 x52 x53 x54 x55 x56 x57 x58 x59 x60 x61 x62 x63 x64 x65 x66 x67 x68 x69)) (w' := w3) rfl rfl rfl (x_loadN (S23 x48 x49 x50 x51 x52 x53 x54 x55 x56 x57 x58 x59 x60 x61 x62 x63 x64 x65 x66 x67 x68 x69) rfl e2 SH_24 (K23 ⟨q48, q49, q50, q51, q52, q53, q54, q55, q56, q57, q58, q59, q60, q61, q62, q63, q64, q65, q66, q67, q68, q69⟩)) ?_
  refine wpR_enter rfl rfl rfl (x_call (vs := [(V23 x4 x5 x6 x7 x8 x9 x10 x11 x12 x13 x14 x15 x16 x17 x18 x19 x20 x21 x22 x23 x24 x25), (V23 x26 x27 x28 x29 x30 x31 x32 x33 x34 x35 x36 x37 x38 x39 x40 x41 x42 x43 x44 x45 x46 x47), (V23 x48 x49 x50 x51 x52 x53 x54 x55 x56 x57 x58 x59 x60 x61 x62 x63 x64 x65 x66 x67 x68 x69)]) rfl rfl (mapl_cons rfl (mapl_cons rfl (mapl_cons rfl mapl_nil))) Try.func9 NN_9 NB_9) (Calls.mono h ?_)
  rintro _ w4 ⟨r70, rfl, h⟩
  refine ⟨_, rfl, ?_⟩
  refine wpR_val (v := (Value.bool (!r70))) (w' := w4) rfl rfl rfl (x_not rfl rfl) ?_
  refine wpR_val (v := (Value.bool (!r70))) (w' := w4) rfl rfl rfl (x_move (v := (Value.bool (!r70))) rfl rfl) ?_
  obtain ⟨J71, h, hk⟩ := h
  refine wpR_joinJ 6 (fun x ρ => ρ 21 = Value.bool x ∧ ρ 2 = (Value.pointer (some (Addr.mk b1 0 none))) ∧ ρ 3 = (Value.pointer (some (Addr.mk b2 0 none))) ∧ ρ 5 = (Value.bool r3) ∧ True) (J71) ?_ ?_
  · clear hk
    rcases Bool.eq_false_or_eq_true (!r70) with hc72 | hc72
    · replace h := h.1 hc72
      refine wpR_pass (wantN rfl rfl rfl hc72) rfl rfl ?_
      refine wpR_pass (wantN rfl rfl rfl hc72) rfl rfl ?_
      refine wpR_pass (wantN rfl rfl rfl hc72) rfl rfl ?_
      refine wpR_pass (wantN rfl rfl rfl hc72) rfl rfl ?_
      refine wpR_pass (wantN rfl rfl rfl hc72) rfl rfl ?_
      refine wpR_val (v := (Value.bool true)) (w' := w4) rfl rfl rfl (x_pickT (v := (Value.bool true)) rfl rfl hc72 rfl) ?_
      refine wpR_nil ?_
      exact ⟨true, ⟨rfl, e2, e3, e5, trivial⟩, h⟩
    · replace h := h.2 hc72
      obtain ⟨x73, q73, x74, q74, x75, q75, x76, q76, x77, q77, x78, q78, x79, q79, x80, q80, x81, q81, x82, q82, x83, q83, x84, q84, x85, q85, x86, q86, x87, q87, x88, q88, x89, q89, x90, q90, x91, q91, x92, q92, x93, q93, x94, q94, h⟩ := h
      refine wpR_val (v := (V23 x73 x74 x75 x76 x77 x78 x79 x80 x81 x82 x83 x84 x85 x86 x87 x88 x89 x90 x91 x92 x93 x94)) (w' := w4) (wantG rfl rfl rfl hc72) rfl rfl (x_loadN (S23 x73 x74 x75 x76 x77 x78 x79 x80 x81 x82 x83 x84 x85 x86 x87 x88 x89 x90 x91 x92 x93 x94) rfl e2 SH_24 (K23 ⟨q73, q74, q75, q76, q77, q78, q79, q80, q81, q82, q83, q84, q85, q86, q87, q88, q89, q90, q91, q92, q93, q94⟩)) ?_
      obtain ⟨x95, q95, x96, q96, x97, q97, x98, q98, x99, q99, x100, q100, x101, q101, x102, q102, x103, q103, x104, q104, x105, q105, x106, q106, x107, q107, x108, q108, x109, q109, x110, q110, x111, q111, x112, q112, x113, q113, x114, q114, x115, q115, x116, q116, h⟩ := h
      refine wpR_val (v := (V23 x95 x96 x97 x98 x99 x100 x101 x102 x103 x104 x105 x106 x107 x108 x109 x110 x111 x112 x113 x114 x115 x116)) (w' := w4) (wantG rfl rfl rfl hc72) rfl rfl (x_loadN (S23 x95 x96 x97 x98 x99 x100 x101 x102 x103 x104 x105 x106 x107 x108 x109 x110 x111 x112 x113 x114 x115 x116) rfl e3 SH_24 (K23 ⟨q95, q96, q97, q98, q99, q100, q101, q102, q103, q104, q105, q106, q107, q108, q109, q110, q111, q112, q113, q114, q115, q116⟩)) ?_
      obtain ⟨x117, q117, x118, q118, x119, q119, x120, q120, x121, q121, x122, q122, x123, q123, x124, q124, x125, q125, x126, q126, x127, q127, x128, q128, x129, q129, x130, q130, x131, q131, x132, q132, x133, q133, x134, q134, x135, q135, x136, q136, x137, q137, x138, q138, h⟩ := h
      refine wpR_val (v := (V23 x117 x118 x119 x120 x121 x122 x123 x124 x125 x126 x127 x128 x129 x130 x131 x132 x133 x134 x135 x136 x137 x138)) (w' := w4) (wantG rfl rfl rfl hc72) rfl rfl (x_loadN (S23 x117 x118 x119 x120 x121 x122 x123 x124 x125 x126 x127 x128 x129 x130 x131 x132 x133 x134 x135 x136 x137 x138) rfl e2 SH_24 (K23 ⟨q117, q118, q119, q120, q121, q122, q123, q124, q125, q126, q127, q128, q129, q130, q131, q132, q133, q134, q135, q136, q137, q138⟩)) ?_
      refine wpR_enter (wantG rfl rfl rfl hc72) rfl rfl (x_call (vs := [(V23 x73 x74 x75 x76 x77 x78 x79 x80 x81 x82 x83 x84 x85 x86 x87 x88 x89 x90 x91 x92 x93 x94), (V23 x95 x96 x97 x98 x99 x100 x101 x102 x103 x104 x105 x106 x107 x108 x109 x110 x111 x112 x113 x114 x115 x116), (V23 x117 x118 x119 x120 x121 x122 x123 x124 x125 x126 x127 x128 x129 x130 x131 x132 x133 x134 x135 x136 x137 x138)]) rfl rfl (mapl_cons rfl (mapl_cons rfl (mapl_cons rfl mapl_nil))) Try.func19 NN_19 NB_19) (Calls.mono h ?_)
      rintro _ w5 ⟨r139, rfl, h⟩
      refine ⟨_, rfl, ?_⟩
      refine wpR_val (v := (Value.bool (!r139))) (w' := w5) (wantG rfl rfl rfl hc72) rfl rfl (x_not rfl rfl) ?_
      refine wpR_val (v := (Value.bool (!r139))) (w' := w5) rfl rfl rfl (x_pickF (v := (Value.bool (!r139))) rfl rfl hc72 rfl) ?_
      refine wpR_nil ?_
      exact ⟨!r139, ⟨rfl, e2, e3, e5, trivial⟩, h⟩
  clear h
  rintro c140 ρ w6 ⟨e21, e2, e3, e5, -⟩ h
  replace h := hk c140 w6 h
  clear hk
  refine wpR_nil ?_
  refine wpC_cond (b := c140) e21 (fun hc141 => ?_) (fun hc141 => ?_)
  · replace h := h.1 hc141
    refine wpC_seq ?_
    refine wpC_region ?_
    refine wpR_val (v := (Value.bool r3)) (w' := w6) rfl rfl rfl (x_move (v := (Value.bool r3)) rfl e5) ?_
    refine wpR_val (v := (Value.bool r3)) (w' := w6) rfl rfl rfl (x_assign (v := (Value.bool r3)) rfl rfl) ?_
    refine wpR_nil ?_
    refine wpC_ret ?_
    exact ⟨.inl rfl, fun a ha => ⟨_, results_rep1 rfl ha rfl, r3, rfl, h⟩⟩
  · replace h := h.2 hc141
    refine wpC_skip ?_
    refine wpC_seq ?_
    refine wpC_region ?_
    obtain ⟨x142, q142, x143, q143, x144, q144, x145, q145, x146, q146, x147, q147, x148, q148, x149, q149, x150, q150, x151, q151, x152, q152, x153, q153, x154, q154, x155, q155, x156, q156, x157, q157, x158, q158, x159, q159, x160, q160, x161, q161, x162, q162, x163, q163, h⟩ := h
    refine wpR_val (v := (V23 x142 x143 x144 x145 x146 x147 x148 x149 x150 x151 x152 x153 x154 x155 x156 x157 x158 x159 x160 x161 x162 x163)) (w' := w6) rfl rfl rfl (x_loadN (S23 x142 x143 x144 x145 x146 x147 x148 x149 x150 x151 x152 x153 x154 x155 x156 x157 x158 x159 x160 x161 x162 x163) rfl e2 SH_24 (K23 ⟨q142, q143, q144, q145, q146, q147, q148, q149, q150, q151, q152, q153, q154, q155, q156, q157, q158, q159, q160, q161, q162, q163⟩)) ?_
    obtain ⟨x164, q164, x165, q165, x166, q166, x167, q167, x168, q168, x169, q169, x170, q170, x171, q171, x172, q172, x173, q173, x174, q174, x175, q175, x176, q176, x177, q177, x178, q178, x179, q179, x180, q180, x181, q181, x182, q182, x183, q183, x184, q184, x185, q185, h⟩ := h
    refine wpR_val (v := (V23 x164 x165 x166 x167 x168 x169 x170 x171 x172 x173 x174 x175 x176 x177 x178 x179 x180 x181 x182 x183 x184 x185)) (w' := w6) rfl rfl rfl (x_loadN (S23 x164 x165 x166 x167 x168 x169 x170 x171 x172 x173 x174 x175 x176 x177 x178 x179 x180 x181 x182 x183 x184 x185) rfl e3 SH_24 (K23 ⟨q164, q165, q166, q167, q168, q169, q170, q171, q172, q173, q174, q175, q176, q177, q178, q179, q180, q181, q182, q183, q184, q185⟩)) ?_
    refine wpR_enter rfl rfl rfl (x_call (vs := [(V23 x142 x143 x144 x145 x146 x147 x148 x149 x150 x151 x152 x153 x154 x155 x156 x157 x158 x159 x160 x161 x162 x163), (V23 x164 x165 x166 x167 x168 x169 x170 x171 x172 x173 x174 x175 x176 x177 x178 x179 x180 x181 x182 x183 x184 x185)]) rfl rfl (mapl_cons rfl (mapl_cons rfl mapl_nil)) Try.func15 NN_15 NB_15) (Calls.mono h ?_)
    rintro _ w7 ⟨r186, rfl, h⟩
    refine ⟨_, rfl, ?_⟩
    obtain ⟨b187, hb187⟩ : ∃ u, u = w7.heap.size := ⟨_, rfl⟩
    obtain ⟨w8, hw187⟩ : ∃ u, u = w7.alloc (.cells (A23 (ByteArray.mk #[]) 0 0 0 false 0 false false 0 0 0 0 Sl.nil 0 0 0 0 false 0 0 0 0) 24) := ⟨_, rfl⟩
    replace h := h b187 w8 hb187 hw187
    refine wpR_val (v := (Value.pointer (some (Addr.mk b187 0 none)))) (w' := w8) rfl rfl rfl ((x_alloc rfl ZV_24).trans (by rw [hb187, hw187]; rfl)) ?_
    obtain ⟨q188, h⟩ := h
    obtain ⟨w9, hw188⟩ : ∃ u, u = setAll w8 (Addr.mk b187 0 none) (S23 r186.1 r186.2.1 r186.2.2.1 r186.2.2.2.1 r186.2.2.2.2.1 r186.2.2.2.2.2.1 r186.2.2.2.2.2.2.1 r186.2.2.2.2.2.2.2.1 r186.2.2.2.2.2.2.2.2.1 r186.2.2.2.2.2.2.2.2.2.1 r186.2.2.2.2.2.2.2.2.2.2.1 r186.2.2.2.2.2.2.2.2.2.2.2.1 r186.2.2.2.2.2.2.2.2.2.2.2.2.1 r186.2.2.2.2.2.2.2.2.2.2.2.2.2.1 r186.2.2.2.2.2.2.2.2.2.2.2.2.2.2.1 r186.2.2.2.2.2.2.2.2.2.2.2.2.2.2.2.1 r186.2.2.2.2.2.2.2.2.2.2.2.2.2.2.2.2.1 r186.2.2.2.2.2.2.2.2.2.2.2.2.2.2.2.2.2.1 r186.2.2.2.2.2.2.2.2.2.2.2.2.2.2.2.2.2.2.1 r186.2.2.2.2.2.2.2.2.2.2.2.2.2.2.2.2.2.2.2.1 r186.2.2.2.2.2.2.2.2.2.2.2.2.2.2.2.2.2.2.2.2.1 r186.2.2.2.2.2.2.2.2.2.2.2.2.2.2.2.2.2.2.2.2.2) 0 := ⟨_, rfl⟩
    replace h := h w9 hw188
    refine wpR_skp (w' := w9) rfl rfl ((x_store (v := (V23 r186.1 r186.2.1 r186.2.2.1 r186.2.2.2.1 r186.2.2.2.2.1 r186.2.2.2.2.2.1 r186.2.2.2.2.2.2.1 r186.2.2.2.2.2.2.2.1 r186.2.2.2.2.2.2.2.2.1 r186.2.2.2.2.2.2.2.2.2.1 r186.2.2.2.2.2.2.2.2.2.2.1 r186.2.2.2.2.2.2.2.2.2.2.2.1 r186.2.2.2.2.2.2.2.2.2.2.2.2.1 r186.2.2.2.2.2.2.2.2.2.2.2.2.2.1 r186.2.2.2.2.2.2.2.2.2.2.2.2.2.2.1 r186.2.2.2.2.2.2.2.2.2.2.2.2.2.2.2.1 r186.2.2.2.2.2.2.2.2.2.2.2.2.2.2.2.2.1 r186.2.2.2.2.2.2.2.2.2.2.2.2.2.2.2.2.2.1 r186.2.2.2.2.2.2.2.2.2.2.2.2.2.2.2.2.2.2.1 r186.2.2.2.2.2.2.2.2.2.2.2.2.2.2.2.2.2.2.2.1 r186.2.2.2.2.2.2.2.2.2.2.2.2.2.2.2.2.2.2.2.2.1 r186.2.2.2.2.2.2.2.2.2.2.2.2.2.2.2.2.2.2.2.2.2)) rfl rfl rfl SZ_24 (ones (by rfl)) q188).trans (by rw [hw188]; rfl)) ?_
    refine wpR_nil ?_
    refine wpC_seq ?_
    refine wpC_cut (fun ρ => ρ 2 = (Value.pointer (some (Addr.mk b1 0 none))) ∧ ρ 3 = (Value.pointer (some (Addr.mk b2 0 none))) ∧ ρ 5 = (Value.bool r3) ∧ ρ 6 = (Value.pointer (some (Addr.mk b187 0 none))) ∧ True) ⟨e2, e3, e5, rfl, trivial⟩ ?_
    rintro ρ ⟨e2, e3, e5, e6, -⟩
    refine wpC_region ?_
    obtain ⟨x189, q189, x190, q190, x191, q191, x192, q192, x193, q193, x194, q194, x195, q195, x196, q196, x197, q197, x198, q198, x199, q199, x200, q200, x201, q201, x202, q202, x203, q203, x204, q204, x205, q205, x206, q206, x207, q207, x208, q208, x209, q209, x210, q210, h⟩ := h
    refine wpR_val (v := (V23 x189 x190 x191 x192 x193 x194 x195 x196 x197 x198 x199 x200 x201 x202 x203 x204 x205 x206 x207 x208 x209 x210)) (w' := w9) rfl rfl rfl (x_loadN (S23 x189 x190 x191 x192 x193 x194 x195 x196 x197 x198 x199 x200 x201 x202 x203 x204 x205 x206 x207 x208 x209 x210) rfl e2 SH_24 (K23 ⟨q189, q190, q191, q192, q193, q194, q195, q196, q197, q198, q199, q200, q201, q202, q203, q204, q205, q206, q207, q208, q209, q210⟩)) ?_
    obtain ⟨x211, q211, x212, q212, x213, q213, x214, q214, x215, q215, x216, q216, x217, q217, x218, q218, x219, q219, x220, q220, x221, q221, x222, q222, x223, q223, x224, q224, x225, q225, x226, q226, x227, q227, x228, q228, x229, q229, x230, q230, x231, q231, x232, q232, h⟩ := h
    refine wpR_val (v := (V23 x211 x212 x213 x214 x215 x216 x217 x218 x219 x220 x221 x222 x223 x224 x225 x226 x227 x228 x229 x230 x231 x232)) (w' := w9) rfl rfl rfl (x_loadN (S23 x211 x212 x213 x214 x215 x216 x217 x218 x219 x220 x221 x222 x223 x224 x225 x226 x227 x228 x229 x230 x231 x232) rfl e3 SH_24 (K23 ⟨q211, q212, q213, q214, q215, q216, q217, q218, q219, q220, q221, q222, q223, q224, q225, q226, q227, q228, q229, q230, q231, q232⟩)) ?_
    refine wpR_enter rfl rfl rfl (x_call (vs := [(V23 x189 x190 x191 x192 x193 x194 x195 x196 x197 x198 x199 x200 x201 x202 x203 x204 x205 x206 x207 x208 x209 x210), (V23 x211 x212 x213 x214 x215 x216 x217 x218 x219 x220 x221 x222 x223 x224 x225 x226 x227 x228 x229 x230 x231 x232)]) rfl rfl (mapl_cons rfl (mapl_cons rfl mapl_nil)) Try.func17 NN_17 NB_17) (Calls.mono h ?_)
    rintro _ w10 ⟨r233, rfl, h⟩
    refine ⟨_, rfl, ?_⟩
    obtain ⟨b234, hb234⟩ : ∃ u, u = w10.heap.size := ⟨_, rfl⟩
    obtain ⟨w11, hw234⟩ : ∃ u, u = w10.alloc (.cells (A23 (ByteArray.mk #[]) 0 0 0 false 0 false false 0 0 0 0 Sl.nil 0 0 0 0 false 0 0 0 0) 24) := ⟨_, rfl⟩
    replace h := h b234 w11 hb234 hw234
    refine wpR_val (v := (Value.pointer (some (Addr.mk b234 0 none)))) (w' := w11) rfl rfl rfl ((x_alloc rfl ZV_24).trans (by rw [hb234, hw234]; rfl)) ?_
    obtain ⟨q235, h⟩ := h
    obtain ⟨w12, hw235⟩ : ∃ u, u = setAll w11 (Addr.mk b234 0 none) (S23 r233.1 r233.2.1 r233.2.2.1 r233.2.2.2.1 r233.2.2.2.2.1 r233.2.2.2.2.2.1 r233.2.2.2.2.2.2.1 r233.2.2.2.2.2.2.2.1 r233.2.2.2.2.2.2.2.2.1 r233.2.2.2.2.2.2.2.2.2.1 r233.2.2.2.2.2.2.2.2.2.2.1 r233.2.2.2.2.2.2.2.2.2.2.2.1 r233.2.2.2.2.2.2.2.2.2.2.2.2.1 r233.2.2.2.2.2.2.2.2.2.2.2.2.2.1 r233.2.2.2.2.2.2.2.2.2.2.2.2.2.2.1 r233.2.2.2.2.2.2.2.2.2.2.2.2.2.2.2.1 r233.2.2.2.2.2.2.2.2.2.2.2.2.2.2.2.2.1 r233.2.2.2.2.2.2.2.2.2.2.2.2.2.2.2.2.2.1 r233.2.2.2.2.2.2.2.2.2.2.2.2.2.2.2.2.2.2.1 r233.2.2.2.2.2.2.2.2.2.2.2.2.2.2.2.2.2.2.2.1 r233.2.2.2.2.2.2.2.2.2.2.2.2.2.2.2.2.2.2.2.2.1 r233.2.2.2.2.2.2.2.2.2.2.2.2.2.2.2.2.2.2.2.2.2) 0 := ⟨_, rfl⟩
    replace h := h w12 hw235
    refine wpR_skp (w' := w12) rfl rfl ((x_store (v := (V23 r233.1 r233.2.1 r233.2.2.1 r233.2.2.2.1 r233.2.2.2.2.1 r233.2.2.2.2.2.1 r233.2.2.2.2.2.2.1 r233.2.2.2.2.2.2.2.1 r233.2.2.2.2.2.2.2.2.1 r233.2.2.2.2.2.2.2.2.2.1 r233.2.2.2.2.2.2.2.2.2.2.1 r233.2.2.2.2.2.2.2.2.2.2.2.1 r233.2.2.2.2.2.2.2.2.2.2.2.2.1 r233.2.2.2.2.2.2.2.2.2.2.2.2.2.1 r233.2.2.2.2.2.2.2.2.2.2.2.2.2.2.1 r233.2.2.2.2.2.2.2.2.2.2.2.2.2.2.2.1 r233.2.2.2.2.2.2.2.2.2.2.2.2.2.2.2.2.1 r233.2.2.2.2.2.2.2.2.2.2.2.2.2.2.2.2.2.1 r233.2.2.2.2.2.2.2.2.2.2.2.2.2.2.2.2.2.2.1 r233.2.2.2.2.2.2.2.2.2.2.2.2.2.2.2.2.2.2.2.1 r233.2.2.2.2.2.2.2.2.2.2.2.2.2.2.2.2.2.2.2.2.1 r233.2.2.2.2.2.2.2.2.2.2.2.2.2.2.2.2.2.2.2.2.2)) rfl rfl rfl SZ_24 (ones (by rfl)) q235).trans (by rw [hw235]; rfl)) ?_
    refine wpR_nil ?_
    refine wpC_seq ?_
    refine wpC_seq ?_
    refine wpC_cut (fun ρ => ρ 2 = (Value.pointer (some (Addr.mk b1 0 none))) ∧ ρ 3 = (Value.pointer (some (Addr.mk b2 0 none))) ∧ ρ 5 = (Value.bool r3) ∧ ρ 6 = (Value.pointer (some (Addr.mk b187 0 none))) ∧ ρ 7 = (Value.pointer (some (Addr.mk b234 0 none))) ∧ True) ⟨e2, e3, e5, e6, rfl, trivial⟩ ?_
    rintro ρ ⟨e2, e3, e5, e6, e7, -⟩
    obtain ⟨J237, h, hk⟩ := h
    refine wpC_drawJ (by kernel_rfl) (fun (x : Bool) ρ => ρ 58 = (Value.bool x) ∧ ρ 2 = (Value.pointer (some (Addr.mk b1 0 none))) ∧ ρ 3 = (Value.pointer (some (Addr.mk b2 0 none))) ∧ ρ 5 = (Value.bool r3) ∧ ρ 6 = (Value.pointer (some (Addr.mk b187 0 none))) ∧ ρ 7 = (Value.pointer (some (Addr.mk b234 0 none))) ∧ True) J237 ?_ ?_
    · clear hk
      unfold tk at h
      generalize w12.drew = w13 at h ⊢
      obtain ⟨x238, q238, x239, q239, x240, q240, x241, q241, x242, q242, x243, q243, x244, q244, x245, q245, x246, q246, x247, q247, x248, q248, x249, q249, x250, q250, x251, q251, x252, q252, x253, q253, x254, q254, x255, q255, x256, q256, x257, q257, x258, q258, x259, q259, h⟩ := h
      refine wpD_take (v := (V23 x238 x239 x240 x241 x242 x243 x244 x245 x246 x247 x248 x249 x250 x251 x252 x253 x254 x255 x256 x257 x258 x259)) 0 (fun w => C23 (Addr.mk b1 0 none) x238 x239 x240 x241 x242 x243 x244 x245 x246 x247 x248 x249 x250 x251 x252 x253 x254 x255 x256 x257 x258 x259 w) rfl (by kernel_rfl) (by kernel_rfl) (by kernel_rfl) rfl rfl rfl ⟨q238, q239, q240, q241, q242, q243, q244, q245, q246, q247, q248, q249, q250, q251, q252, q253, q254, q255, q256, q257, q258, q259⟩ (fun w q => (x_loadN (S23 x238 x239 x240 x241 x242 x243 x244 x245 x246 x247 x248 x249 x250 x251 x252 x253 x254 x255 x256 x257 x258 x259) rfl e2 SH_24 (K23 q))) ?_
      obtain ⟨x260, q260, x261, q261, x262, q262, x263, q263, x264, q264, x265, q265, x266, q266, x267, q267, x268, q268, x269, q269, x270, q270, x271, q271, x272, q272, x273, q273, x274, q274, x275, q275, x276, q276, x277, q277, x278, q278, x279, q279, x280, q280, x281, q281, h⟩ := h
      refine wpD_take (v := (V23 x260 x261 x262 x263 x264 x265 x266 x267 x268 x269 x270 x271 x272 x273 x274 x275 x276 x277 x278 x279 x280 x281)) 1 (fun w => C23 (Addr.mk b1 0 none) x260 x261 x262 x263 x264 x265 x266 x267 x268 x269 x270 x271 x272 x273 x274 x275 x276 x277 x278 x279 x280 x281 w) rfl (by kernel_rfl) (by kernel_rfl) (by kernel_rfl) rfl rfl rfl ⟨q260, q261, q262, q263, q264, q265, q266, q267, q268, q269, q270, q271, q272, q273, q274, q275, q276, q277, q278, q279, q280, q281⟩ (fun w q => (x_loadN (S23 x260 x261 x262 x263 x264 x265 x266 x267 x268 x269 x270 x271 x272 x273 x274 x275 x276 x277 x278 x279 x280 x281) rfl e2 SH_24 (K23 q))) ?_
      obtain ⟨x282, q282, x283, q283, x284, q284, x285, q285, x286, q286, x287, q287, x288, q288, x289, q289, x290, q290, x291, q291, x292, q292, x293, q293, x294, q294, x295, q295, x296, q296, x297, q297, x298, q298, x299, q299, x300, q300, x301, q301, x302, q302, x303, q303, h⟩ := h
      refine wpD_take (v := (V23 x282 x283 x284 x285 x286 x287 x288 x289 x290 x291 x292 x293 x294 x295 x296 x297 x298 x299 x300 x301 x302 x303)) 3 (fun w => C23 (Addr.mk b1 0 none) x282 x283 x284 x285 x286 x287 x288 x289 x290 x291 x292 x293 x294 x295 x296 x297 x298 x299 x300 x301 x302 x303 w) rfl (by kernel_rfl) (by kernel_rfl) (by kernel_rfl) rfl rfl rfl ⟨q282, q283, q284, q285, q286, q287, q288, q289, q290, q291, q292, q293, q294, q295, q296, q297, q298, q299, q300, q301, q302, q303⟩ (fun w q => (x_loadN (S23 x282 x283 x284 x285 x286 x287 x288 x289 x290 x291 x292 x293 x294 x295 x296 x297 x298 x299 x300 x301 x302 x303) rfl e2 SH_24 (K23 q))) ?_
      refine wpD_all (rs := [2]) (by kernel_rfl) (by simp) (allD_cons ?_ allD_nil)
      refine stepD_enterL (L' := [(3, fun w => C23 (Addr.mk b1 0 none) x282 x283 x284 x285 x286 x287 x288 x289 x290 x291 x292 x293 x294 x295 x296 x297 x298 x299 x300 x301 x302 x303 w)]) rfl rfl rfl rfl (x_call (vs := [(V23 x238 x239 x240 x241 x242 x243 x244 x245 x246 x247 x248 x249 x250 x251 x252 x253 x254 x255 x256 x257 x258 x259), (V23 x260 x261 x262 x263 x264 x265 x266 x267 x268 x269 x270 x271 x272 x273 x274 x275 x276 x277 x278 x279 x280 x281)]) rfl rfl (mapl_cons rfl (mapl_cons rfl mapl_nil)) Try.func15 NN_15 NB_15) (by kernel_rfl) (Calls.mono h ?_)
      rintro _ w14 ⟨r304, rfl, h⟩
      obtain ⟨o3, h⟩ := h
      refine ⟨_, rfl, (held_cons o3 held_nil), ?_⟩
      refine wpD_all (rs := [4]) (by kernel_rfl) (by simp) (allD_cons ?_ allD_nil)
      refine stepD_enterL (L' := []) rfl rfl rfl rfl (x_call (vs := [(V23 r304.1 r304.2.1 r304.2.2.1 r304.2.2.2.1 r304.2.2.2.2.1 r304.2.2.2.2.2.1 r304.2.2.2.2.2.2.1 r304.2.2.2.2.2.2.2.1 r304.2.2.2.2.2.2.2.2.1 r304.2.2.2.2.2.2.2.2.2.1 r304.2.2.2.2.2.2.2.2.2.2.1 r304.2.2.2.2.2.2.2.2.2.2.2.1 r304.2.2.2.2.2.2.2.2.2.2.2.2.1 r304.2.2.2.2.2.2.2.2.2.2.2.2.2.1 r304.2.2.2.2.2.2.2.2.2.2.2.2.2.2.1 r304.2.2.2.2.2.2.2.2.2.2.2.2.2.2.2.1 r304.2.2.2.2.2.2.2.2.2.2.2.2.2.2.2.2.1 r304.2.2.2.2.2.2.2.2.2.2.2.2.2.2.2.2.2.1 r304.2.2.2.2.2.2.2.2.2.2.2.2.2.2.2.2.2.2.1 r304.2.2.2.2.2.2.2.2.2.2.2.2.2.2.2.2.2.2.2.1 r304.2.2.2.2.2.2.2.2.2.2.2.2.2.2.2.2.2.2.2.2.1 r304.2.2.2.2.2.2.2.2.2.2.2.2.2.2.2.2.2.2.2.2.2), (V23 x282 x283 x284 x285 x286 x287 x288 x289 x290 x291 x292 x293 x294 x295 x296 x297 x298 x299 x300 x301 x302 x303)]) rfl rfl (mapl_cons rfl (mapl_cons rfl mapl_nil)) Try.func14 NN_14 NB_14) (by kernel_rfl) (Calls.mono h ?_)
      rintro _ w15 ⟨r305, rfl, h⟩
      refine ⟨_, rfl, held_nil, ?_⟩
      refine wpD_take (v := (Value.bool (!r305))) 5 (fun _ => True) rfl (by kernel_rfl) (by kernel_rfl) (by kernel_rfl) rfl rfl rfl trivial (fun w _ => (x_not rfl rfl)) ?_
      refine wpD_take (v := (Value.bool (!r305))) 6 (fun _ => True) rfl (by kernel_rfl) (by kernel_rfl) (by kernel_rfl) rfl rfl rfl trivial (fun w _ => (x_move (v := (Value.bool (!r305))) rfl rfl)) ?_
      rcases Bool.eq_false_or_eq_true (!r305) with hc306 | hc306
      · replace h := h.1 hc306
        refine wpD_pass 7 rfl (by kernel_rfl) (by kernel_rfl) (by kernel_rfl) (wantN rfl rfl rfl hc306) rfl rfl ?_
        refine wpD_pass 8 rfl (by kernel_rfl) (by kernel_rfl) (by kernel_rfl) (wantN rfl rfl rfl hc306) rfl rfl ?_
        refine wpD_pass 9 rfl (by kernel_rfl) (by kernel_rfl) (by kernel_rfl) (wantN rfl rfl rfl hc306) rfl rfl ?_
        refine wpD_pass 10 rfl (by kernel_rfl) (by kernel_rfl) (by kernel_rfl) (wantN rfl rfl rfl hc306) rfl rfl ?_
        refine wpD_pass 11 rfl (by kernel_rfl) (by kernel_rfl) (by kernel_rfl) (wantN rfl rfl rfl hc306) rfl rfl ?_
        refine wpD_pass 12 rfl (by kernel_rfl) (by kernel_rfl) (by kernel_rfl) (wantN rfl rfl rfl hc306) rfl rfl ?_
        refine wpD_take (v := (Value.bool true)) 13 (fun _ => True) rfl (by kernel_rfl) (by kernel_rfl) (by kernel_rfl) rfl rfl rfl trivial (fun w _ => (x_pickT (v := (Value.bool true)) rfl rfl hc306 rfl)) ?_
        refine wpD_take (v := (Value.bool true)) 14 (fun _ => True) rfl (by kernel_rfl) (by kernel_rfl) (by kernel_rfl) rfl rfl rfl trivial (fun w _ => (x_move (v := (Value.bool true)) rfl rfl)) ?_
        refine wpD_pass 15 rfl (by kernel_rfl) (by kernel_rfl) (by kernel_rfl) (wantN rfl rfl rfl rfl) rfl rfl ?_
        refine wpD_pass 16 rfl (by kernel_rfl) (by kernel_rfl) (by kernel_rfl) (wantN rfl rfl rfl rfl) rfl rfl ?_
        refine wpD_pass 17 rfl (by kernel_rfl) (by kernel_rfl) (by kernel_rfl) (wantN rfl rfl rfl rfl) rfl rfl ?_
        refine wpD_pass 18 rfl (by kernel_rfl) (by kernel_rfl) (by kernel_rfl) (wantN rfl rfl rfl rfl) rfl rfl ?_
        refine wpD_pass 19 rfl (by kernel_rfl) (by kernel_rfl) (by kernel_rfl) (wantN rfl rfl rfl rfl) rfl rfl ?_
        refine wpD_pass 20 rfl (by kernel_rfl) (by kernel_rfl) (by kernel_rfl) (wantN rfl rfl rfl rfl) rfl rfl ?_
        refine wpD_take (v := (Value.bool true)) 21 (fun _ => True) rfl (by kernel_rfl) (by kernel_rfl) (by kernel_rfl) rfl rfl rfl trivial (fun w _ => (x_pickT (v := (Value.bool true)) rfl rfl rfl rfl)) ?_
        refine wpD_take (v := (Value.bool true)) 22 (fun _ => True) rfl (by kernel_rfl) (by kernel_rfl) (by kernel_rfl) rfl rfl rfl trivial (fun w _ => (x_move (v := (Value.bool true)) rfl rfl)) ?_
        refine wpD_pass 23 rfl (by kernel_rfl) (by kernel_rfl) (by kernel_rfl) (wantN rfl rfl rfl rfl) rfl rfl ?_
        refine wpD_pass 24 rfl (by kernel_rfl) (by kernel_rfl) (by kernel_rfl) (wantN rfl rfl rfl rfl) rfl rfl ?_
        refine wpD_pass 25 rfl (by kernel_rfl) (by kernel_rfl) (by kernel_rfl) (wantN rfl rfl rfl rfl) rfl rfl ?_
        refine wpD_pass 26 rfl (by kernel_rfl) (by kernel_rfl) (by kernel_rfl) (wantN rfl rfl rfl rfl) rfl rfl ?_
        refine wpD_pass 27 rfl (by kernel_rfl) (by kernel_rfl) (by kernel_rfl) (wantN rfl rfl rfl rfl) rfl rfl ?_
        refine wpD_pass 28 rfl (by kernel_rfl) (by kernel_rfl) (by kernel_rfl) (wantN rfl rfl rfl rfl) rfl rfl ?_
        refine wpD_take (v := (Value.bool true)) 29 (fun _ => True) rfl (by kernel_rfl) (by kernel_rfl) (by kernel_rfl) rfl rfl rfl trivial (fun w _ => (x_pickT (v := (Value.bool true)) rfl rfl rfl rfl)) ?_
        exact wpD_done (by kernel_rfl) ⟨true, ⟨rfl, e2, e3, e5, e6, e7, trivial⟩, h⟩
      · replace h := h.2 hc306
        obtain ⟨x307, q307, x308, q308, x309, q309, x310, q310, x311, q311, x312, q312, x313, q313, x314, q314, x315, q315, x316, q316, x317, q317, x318, q318, x319, q319, x320, q320, x321, q321, x322, q322, x323, q323, x324, q324, x325, q325, x326, q326, x327, q327, x328, q328, h⟩ := h
        refine wpD_take (v := (V23 x307 x308 x309 x310 x311 x312 x313 x314 x315 x316 x317 x318 x319 x320 x321 x322 x323 x324 x325 x326 x327 x328)) 7 (fun w => C23 (Addr.mk b1 0 none) x307 x308 x309 x310 x311 x312 x313 x314 x315 x316 x317 x318 x319 x320 x321 x322 x323 x324 x325 x326 x327 x328 w) rfl (by kernel_rfl) (by kernel_rfl) (by kernel_rfl) (wantG rfl rfl rfl hc306) rfl rfl ⟨q307, q308, q309, q310, q311, q312, q313, q314, q315, q316, q317, q318, q319, q320, q321, q322, q323, q324, q325, q326, q327, q328⟩ (fun w q => (x_loadN (S23 x307 x308 x309 x310 x311 x312 x313 x314 x315 x316 x317 x318 x319 x320 x321 x322 x323 x324 x325 x326 x327 x328) rfl e2 SH_24 (K23 q))) ?_
        obtain ⟨x329, q329, x330, q330, x331, q331, x332, q332, x333, q333, x334, q334, x335, q335, x336, q336, x337, q337, x338, q338, x339, q339, x340, q340, x341, q341, x342, q342, x343, q343, x344, q344, x345, q345, x346, q346, x347, q347, x348, q348, x349, q349, x350, q350, h⟩ := h
        refine wpD_take (v := (V23 x329 x330 x331 x332 x333 x334 x335 x336 x337 x338 x339 x340 x341 x342 x343 x344 x345 x346 x347 x348 x349 x350)) 8 (fun w => C23 (Addr.mk b1 0 none) x329 x330 x331 x332 x333 x334 x335 x336 x337 x338 x339 x340 x341 x342 x343 x344 x345 x346 x347 x348 x349 x350 w) rfl (by kernel_rfl) (by kernel_rfl) (by kernel_rfl) (wantG rfl rfl rfl hc306) rfl rfl ⟨q329, q330, q331, q332, q333, q334, q335, q336, q337, q338, q339, q340, q341, q342, q343, q344, q345, q346, q347, q348, q349, q350⟩ (fun w q => (x_loadN (S23 x329 x330 x331 x332 x333 x334 x335 x336 x337 x338 x339 x340 x341 x342 x343 x344 x345 x346 x347 x348 x349 x350) rfl e2 SH_24 (K23 q))) ?_
        obtain ⟨x351, q351, x352, q352, x353, q353, x354, q354, x355, q355, x356, q356, x357, q357, x358, q358, x359, q359, x360, q360, x361, q361, x362, q362, x363, q363, x364, q364, x365, q365, x366, q366, x367, q367, x368, q368, x369, q369, x370, q370, x371, q371, x372, q372, h⟩ := h
        refine wpD_take (v := (V23 x351 x352 x353 x354 x355 x356 x357 x358 x359 x360 x361 x362 x363 x364 x365 x366 x367 x368 x369 x370 x371 x372)) 10 (fun w => C23 (Addr.mk b1 0 none) x351 x352 x353 x354 x355 x356 x357 x358 x359 x360 x361 x362 x363 x364 x365 x366 x367 x368 x369 x370 x371 x372 w) rfl (by kernel_rfl) (by kernel_rfl) (by kernel_rfl) (wantG rfl rfl rfl hc306) rfl rfl ⟨q351, q352, q353, q354, q355, q356, q357, q358, q359, q360, q361, q362, q363, q364, q365, q366, q367, q368, q369, q370, q371, q372⟩ (fun w q => (x_loadN (S23 x351 x352 x353 x354 x355 x356 x357 x358 x359 x360 x361 x362 x363 x364 x365 x366 x367 x368 x369 x370 x371 x372) rfl e2 SH_24 (K23 q))) ?_
        refine wpD_all (rs := [9]) (by kernel_rfl) (by simp) (allD_cons ?_ allD_nil)
        refine stepD_enterL (L' := [(10, fun w => C23 (Addr.mk b1 0 none) x351 x352 x353 x354 x355 x356 x357 x358 x359 x360 x361 x362 x363 x364 x365 x366 x367 x368 x369 x370 x371 x372 w), (5, fun _ => True)]) rfl (wantG rfl rfl rfl hc306) rfl rfl (x_call (vs := [(V23 x307 x308 x309 x310 x311 x312 x313 x314 x315 x316 x317 x318 x319 x320 x321 x322 x323 x324 x325 x326 x327 x328), (V23 x329 x330 x331 x332 x333 x334 x335 x336 x337 x338 x339 x340 x341 x342 x343 x344 x345 x346 x347 x348 x349 x350)]) rfl rfl (mapl_cons rfl (mapl_cons rfl mapl_nil)) Try.func17 NN_17 NB_17) (by kernel_rfl) (Calls.mono h ?_)
        rintro _ w16 ⟨r373, rfl, h⟩
        obtain ⟨o10, h⟩ := h
        refine ⟨_, rfl, (held_cons o10 (held_cons trivial held_nil)), ?_⟩
        refine wpD_all (rs := [11]) (by kernel_rfl) (by simp) (allD_cons ?_ allD_nil)
        refine stepD_enterL (L' := [(5, fun _ => True)]) rfl (wantG rfl rfl rfl hc306) rfl rfl (x_call (vs := [(V23 r373.1 r373.2.1 r373.2.2.1 r373.2.2.2.1 r373.2.2.2.2.1 r373.2.2.2.2.2.1 r373.2.2.2.2.2.2.1 r373.2.2.2.2.2.2.2.1 r373.2.2.2.2.2.2.2.2.1 r373.2.2.2.2.2.2.2.2.2.1 r373.2.2.2.2.2.2.2.2.2.2.1 r373.2.2.2.2.2.2.2.2.2.2.2.1 r373.2.2.2.2.2.2.2.2.2.2.2.2.1 r373.2.2.2.2.2.2.2.2.2.2.2.2.2.1 r373.2.2.2.2.2.2.2.2.2.2.2.2.2.2.1 r373.2.2.2.2.2.2.2.2.2.2.2.2.2.2.2.1 r373.2.2.2.2.2.2.2.2.2.2.2.2.2.2.2.2.1 r373.2.2.2.2.2.2.2.2.2.2.2.2.2.2.2.2.2.1 r373.2.2.2.2.2.2.2.2.2.2.2.2.2.2.2.2.2.2.1 r373.2.2.2.2.2.2.2.2.2.2.2.2.2.2.2.2.2.2.2.1 r373.2.2.2.2.2.2.2.2.2.2.2.2.2.2.2.2.2.2.2.2.1 r373.2.2.2.2.2.2.2.2.2.2.2.2.2.2.2.2.2.2.2.2.2), (V23 x351 x352 x353 x354 x355 x356 x357 x358 x359 x360 x361 x362 x363 x364 x365 x366 x367 x368 x369 x370 x371 x372)]) rfl rfl (mapl_cons rfl (mapl_cons rfl mapl_nil)) Try.func14 NN_14 NB_14) (by kernel_rfl) (Calls.mono h ?_)
        rintro _ w17 ⟨r374, rfl, h⟩
        refine ⟨_, rfl, (held_cons trivial held_nil), ?_⟩
        refine wpD_take (v := (Value.bool (!r374))) 12 (fun _ => True) rfl (by kernel_rfl) (by kernel_rfl) (by kernel_rfl) (wantG rfl rfl rfl hc306) rfl rfl trivial (fun w _ => (x_not rfl rfl)) ?_
        refine wpD_take (v := (Value.bool (!r374))) 13 (fun _ => True) rfl (by kernel_rfl) (by kernel_rfl) (by kernel_rfl) rfl rfl rfl trivial (fun w _ => (x_pickF (v := (Value.bool (!r374))) rfl rfl hc306 rfl)) ?_
        refine wpD_take (v := (Value.bool (!r374))) 14 (fun _ => True) rfl (by kernel_rfl) (by kernel_rfl) (by kernel_rfl) rfl rfl rfl trivial (fun w _ => (x_move (v := (Value.bool (!r374))) rfl rfl)) ?_
        rcases Bool.eq_false_or_eq_true (!r374) with hc375 | hc375
        · replace h := h.1 hc375
          refine wpD_pass 15 rfl (by kernel_rfl) (by kernel_rfl) (by kernel_rfl) (wantN rfl rfl rfl hc375) rfl rfl ?_
          refine wpD_pass 16 rfl (by kernel_rfl) (by kernel_rfl) (by kernel_rfl) (wantN rfl rfl rfl hc375) rfl rfl ?_
          refine wpD_pass 17 rfl (by kernel_rfl) (by kernel_rfl) (by kernel_rfl) (wantN rfl rfl rfl hc375) rfl rfl ?_
          refine wpD_pass 18 rfl (by kernel_rfl) (by kernel_rfl) (by kernel_rfl) (wantN rfl rfl rfl hc375) rfl rfl ?_
          refine wpD_pass 19 rfl (by kernel_rfl) (by kernel_rfl) (by kernel_rfl) (wantN rfl rfl rfl hc375) rfl rfl ?_
          refine wpD_pass 20 rfl (by kernel_rfl) (by kernel_rfl) (by kernel_rfl) (wantN rfl rfl rfl hc375) rfl rfl ?_
          refine wpD_take (v := (Value.bool true)) 21 (fun _ => True) rfl (by kernel_rfl) (by kernel_rfl) (by kernel_rfl) rfl rfl rfl trivial (fun w _ => (x_pickT (v := (Value.bool true)) rfl rfl hc375 rfl)) ?_
          refine wpD_take (v := (Value.bool true)) 22 (fun _ => True) rfl (by kernel_rfl) (by kernel_rfl) (by kernel_rfl) rfl rfl rfl trivial (fun w _ => (x_move (v := (Value.bool true)) rfl rfl)) ?_
          refine wpD_pass 23 rfl (by kernel_rfl) (by kernel_rfl) (by kernel_rfl) (wantN rfl rfl rfl rfl) rfl rfl ?_
          refine wpD_pass 24 rfl (by kernel_rfl) (by kernel_rfl) (by kernel_rfl) (wantN rfl rfl rfl rfl) rfl rfl ?_
          refine wpD_pass 25 rfl (by kernel_rfl) (by kernel_rfl) (by kernel_rfl) (wantN rfl rfl rfl rfl) rfl rfl ?_
          refine wpD_pass 26 rfl (by kernel_rfl) (by kernel_rfl) (by kernel_rfl) (wantN rfl rfl rfl rfl) rfl rfl ?_
          refine wpD_pass 27 rfl (by kernel_rfl) (by kernel_rfl) (by kernel_rfl) (wantN rfl rfl rfl rfl) rfl rfl ?_
          refine wpD_pass 28 rfl (by kernel_rfl) (by kernel_rfl) (by kernel_rfl) (wantN rfl rfl rfl rfl) rfl rfl ?_
          refine wpD_take (v := (Value.bool true)) 29 (fun _ => True) rfl (by kernel_rfl) (by kernel_rfl) (by kernel_rfl) rfl rfl rfl trivial (fun w _ => (x_pickT (v := (Value.bool true)) rfl rfl rfl rfl)) ?_
          exact wpD_done (by kernel_rfl) ⟨true, ⟨rfl, e2, e3, e5, e6, e7, trivial⟩, h⟩
        · replace h := h.2 hc375
          obtain ⟨x376, q376, x377, q377, x378, q378, x379, q379, x380, q380, x381, q381, x382, q382, x383, q383, x384, q384, x385, q385, x386, q386, x387, q387, x388, q388, x389, q389, x390, q390, x391, q391, x392, q392, x393, q393, x394, q394, x395, q395, x396, q396, x397, q397, h⟩ := h
          refine wpD_take (v := (V23 x376 x377 x378 x379 x380 x381 x382 x383 x384 x385 x386 x387 x388 x389 x390 x391 x392 x393 x394 x395 x396 x397)) 15 (fun w => C23 (Addr.mk b187 0 none) x376 x377 x378 x379 x380 x381 x382 x383 x384 x385 x386 x387 x388 x389 x390 x391 x392 x393 x394 x395 x396 x397 w) rfl (by kernel_rfl) (by kernel_rfl) (by kernel_rfl) (wantG rfl rfl rfl hc375) rfl rfl ⟨q376, q377, q378, q379, q380, q381, q382, q383, q384, q385, q386, q387, q388, q389, q390, q391, q392, q393, q394, q395, q396, q397⟩ (fun w q => (x_loadN (S23 x376 x377 x378 x379 x380 x381 x382 x383 x384 x385 x386 x387 x388 x389 x390 x391 x392 x393 x394 x395 x396 x397) rfl e6 SH_24 (K23 q))) ?_
          obtain ⟨x398, q398, x399, q399, x400, q400, x401, q401, x402, q402, x403, q403, x404, q404, x405, q405, x406, q406, x407, q407, x408, q408, x409, q409, x410, q410, x411, q411, x412, q412, x413, q413, x414, q414, x415, q415, x416, q416, x417, q417, x418, q418, x419, q419, h⟩ := h
          refine wpD_take (v := (V23 x398 x399 x400 x401 x402 x403 x404 x405 x406 x407 x408 x409 x410 x411 x412 x413 x414 x415 x416 x417 x418 x419)) 16 (fun w => C23 (Addr.mk b2 0 none) x398 x399 x400 x401 x402 x403 x404 x405 x406 x407 x408 x409 x410 x411 x412 x413 x414 x415 x416 x417 x418 x419 w) rfl (by kernel_rfl) (by kernel_rfl) (by kernel_rfl) (wantG rfl rfl rfl hc375) rfl rfl ⟨q398, q399, q400, q401, q402, q403, q404, q405, q406, q407, q408, q409, q410, q411, q412, q413, q414, q415, q416, q417, q418, q419⟩ (fun w q => (x_loadN (S23 x398 x399 x400 x401 x402 x403 x404 x405 x406 x407 x408 x409 x410 x411 x412 x413 x414 x415 x416 x417 x418 x419) rfl e3 SH_24 (K23 q))) ?_
          obtain ⟨x420, q420, x421, q421, x422, q422, x423, q423, x424, q424, x425, q425, x426, q426, x427, q427, x428, q428, x429, q429, x430, q430, x431, q431, x432, q432, x433, q433, x434, q434, x435, q435, x436, q436, x437, q437, x438, q438, x439, q439, x440, q440, x441, q441, h⟩ := h
          refine wpD_take (v := (V23 x420 x421 x422 x423 x424 x425 x426 x427 x428 x429 x430 x431 x432 x433 x434 x435 x436 x437 x438 x439 x440 x441)) 17 (fun w => C23 (Addr.mk b1 0 none) x420 x421 x422 x423 x424 x425 x426 x427 x428 x429 x430 x431 x432 x433 x434 x435 x436 x437 x438 x439 x440 x441 w) rfl (by kernel_rfl) (by kernel_rfl) (by kernel_rfl) (wantG rfl rfl rfl hc375) rfl rfl ⟨q420, q421, q422, q423, q424, q425, q426, q427, q428, q429, q430, q431, q432, q433, q434, q435, q436, q437, q438, q439, q440, q441⟩ (fun w q => (x_loadN (S23 x420 x421 x422 x423 x424 x425 x426 x427 x428 x429 x430 x431 x432 x433 x434 x435 x436 x437 x438 x439 x440 x441) rfl e2 SH_24 (K23 q))) ?_
          refine wpD_all (rs := [18]) (by kernel_rfl) (by simp) (allD_cons ?_ allD_nil)
          refine stepD_enterL (L' := [(15, fun w => C23 (Addr.mk b187 0 none) x376 x377 x378 x379 x380 x381 x382 x383 x384 x385 x386 x387 x388 x389 x390 x391 x392 x393 x394 x395 x396 x397 w), (13, fun _ => True), (12, fun _ => True), (5, fun _ => True)]) rfl (wantG rfl rfl rfl hc375) rfl rfl (x_call (vs := [(V23 x398 x399 x400 x401 x402 x403 x404 x405 x406 x407 x408 x409 x410 x411 x412 x413 x414 x415 x416 x417 x418 x419), (V23 x420 x421 x422 x423 x424 x425 x426 x427 x428 x429 x430 x431 x432 x433 x434 x435 x436 x437 x438 x439 x440 x441)]) rfl rfl (mapl_cons rfl (mapl_cons rfl mapl_nil)) Try.func15 NN_15 NB_15) (by kernel_rfl) (Calls.mono h ?_)
          rintro _ w18 ⟨r442, rfl, h⟩
          obtain ⟨o15, h⟩ := h
          refine ⟨_, rfl, (held_cons o15 (held_cons trivial (held_cons trivial (held_cons trivial held_nil)))), ?_⟩
          refine wpD_all (rs := [19]) (by kernel_rfl) (by simp) (allD_cons ?_ allD_nil)
          refine stepD_enterL (L' := [(13, fun _ => True), (12, fun _ => True), (5, fun _ => True)]) rfl (wantG rfl rfl rfl hc375) rfl rfl (x_call (vs := [(V23 x376 x377 x378 x379 x380 x381 x382 x383 x384 x385 x386 x387 x388 x389 x390 x391 x392 x393 x394 x395 x396 x397), (V23 r442.1 r442.2.1 r442.2.2.1 r442.2.2.2.1 r442.2.2.2.2.1 r442.2.2.2.2.2.1 r442.2.2.2.2.2.2.1 r442.2.2.2.2.2.2.2.1 r442.2.2.2.2.2.2.2.2.1 r442.2.2.2.2.2.2.2.2.2.1 r442.2.2.2.2.2.2.2.2.2.2.1 r442.2.2.2.2.2.2.2.2.2.2.2.1 r442.2.2.2.2.2.2.2.2.2.2.2.2.1 r442.2.2.2.2.2.2.2.2.2.2.2.2.2.1 r442.2.2.2.2.2.2.2.2.2.2.2.2.2.2.1 r442.2.2.2.2.2.2.2.2.2.2.2.2.2.2.2.1 r442.2.2.2.2.2.2.2.2.2.2.2.2.2.2.2.2.1 r442.2.2.2.2.2.2.2.2.2.2.2.2.2.2.2.2.2.1 r442.2.2.2.2.2.2.2.2.2.2.2.2.2.2.2.2.2.2.1 r442.2.2.2.2.2.2.2.2.2.2.2.2.2.2.2.2.2.2.2.1 r442.2.2.2.2.2.2.2.2.2.2.2.2.2.2.2.2.2.2.2.2.1 r442.2.2.2.2.2.2.2.2.2.2.2.2.2.2.2.2.2.2.2.2.2)]) rfl rfl (mapl_cons rfl (mapl_cons rfl mapl_nil)) Try.func20 NN_20 NB_20) (by kernel_rfl) (Calls.mono h ?_)
          rintro _ w19 ⟨r443, rfl, h⟩
          refine ⟨_, rfl, (held_cons trivial (held_cons trivial (held_cons trivial held_nil))), ?_⟩
          refine wpD_take (v := (Value.bool (!r443))) 20 (fun _ => True) rfl (by kernel_rfl) (by kernel_rfl) (by kernel_rfl) (wantG rfl rfl rfl hc375) rfl rfl trivial (fun w _ => (x_not rfl rfl)) ?_
          refine wpD_take (v := (Value.bool (!r443))) 21 (fun _ => True) rfl (by kernel_rfl) (by kernel_rfl) (by kernel_rfl) rfl rfl rfl trivial (fun w _ => (x_pickF (v := (Value.bool (!r443))) rfl rfl hc375 rfl)) ?_
          refine wpD_take (v := (Value.bool (!r443))) 22 (fun _ => True) rfl (by kernel_rfl) (by kernel_rfl) (by kernel_rfl) rfl rfl rfl trivial (fun w _ => (x_move (v := (Value.bool (!r443))) rfl rfl)) ?_
          rcases Bool.eq_false_or_eq_true (!r443) with hc444 | hc444
          · replace h := h.1 hc444
            refine wpD_pass 23 rfl (by kernel_rfl) (by kernel_rfl) (by kernel_rfl) (wantN rfl rfl rfl hc444) rfl rfl ?_
            refine wpD_pass 24 rfl (by kernel_rfl) (by kernel_rfl) (by kernel_rfl) (wantN rfl rfl rfl hc444) rfl rfl ?_
            refine wpD_pass 25 rfl (by kernel_rfl) (by kernel_rfl) (by kernel_rfl) (wantN rfl rfl rfl hc444) rfl rfl ?_
            refine wpD_pass 26 rfl (by kernel_rfl) (by kernel_rfl) (by kernel_rfl) (wantN rfl rfl rfl hc444) rfl rfl ?_
            refine wpD_pass 27 rfl (by kernel_rfl) (by kernel_rfl) (by kernel_rfl) (wantN rfl rfl rfl hc444) rfl rfl ?_
            refine wpD_pass 28 rfl (by kernel_rfl) (by kernel_rfl) (by kernel_rfl) (wantN rfl rfl rfl hc444) rfl rfl ?_
            refine wpD_take (v := (Value.bool true)) 29 (fun _ => True) rfl (by kernel_rfl) (by kernel_rfl) (by kernel_rfl) rfl rfl rfl trivial (fun w _ => (x_pickT (v := (Value.bool true)) rfl rfl hc444 rfl)) ?_
            exact wpD_done (by kernel_rfl) ⟨true, ⟨rfl, e2, e3, e5, e6, e7, trivial⟩, h⟩
          · replace h := h.2 hc444
            obtain ⟨x445, q445, x446, q446, x447, q447, x448, q448, x449, q449, x450, q450, x451, q451, x452, q452, x453, q453, x454, q454, x455, q455, x456, q456, x457, q457, x458, q458, x459, q459, x460, q460, x461, q461, x462, q462, x463, q463, x464, q464, x465, q465, x466, q466, h⟩ := h
            refine wpD_take (v := (V23 x445 x446 x447 x448 x449 x450 x451 x452 x453 x454 x455 x456 x457 x458 x459 x460 x461 x462 x463 x464 x465 x466)) 23 (fun w => C23 (Addr.mk b234 0 none) x445 x446 x447 x448 x449 x450 x451 x452 x453 x454 x455 x456 x457 x458 x459 x460 x461 x462 x463 x464 x465 x466 w) rfl (by kernel_rfl) (by kernel_rfl) (by kernel_rfl) (wantG rfl rfl rfl hc444) rfl rfl ⟨q445, q446, q447, q448, q449, q450, q451, q452, q453, q454, q455, q456, q457, q458, q459, q460, q461, q462, q463, q464, q465, q466⟩ (fun w q => (x_loadN (S23 x445 x446 x447 x448 x449 x450 x451 x452 x453 x454 x455 x456 x457 x458 x459 x460 x461 x462 x463 x464 x465 x466) rfl e7 SH_24 (K23 q))) ?_
            obtain ⟨x467, q467, x468, q468, x469, q469, x470, q470, x471, q471, x472, q472, x473, q473, x474, q474, x475, q475, x476, q476, x477, q477, x478, q478, x479, q479, x480, q480, x481, q481, x482, q482, x483, q483, x484, q484, x485, q485, x486, q486, x487, q487, x488, q488, h⟩ := h
            refine wpD_take (v := (V23 x467 x468 x469 x470 x471 x472 x473 x474 x475 x476 x477 x478 x479 x480 x481 x482 x483 x484 x485 x486 x487 x488)) 24 (fun w => C23 (Addr.mk b2 0 none) x467 x468 x469 x470 x471 x472 x473 x474 x475 x476 x477 x478 x479 x480 x481 x482 x483 x484 x485 x486 x487 x488 w) rfl (by kernel_rfl) (by kernel_rfl) (by kernel_rfl) (wantG rfl rfl rfl hc444) rfl rfl ⟨q467, q468, q469, q470, q471, q472, q473, q474, q475, q476, q477, q478, q479, q480, q481, q482, q483, q484, q485, q486, q487, q488⟩ (fun w q => (x_loadN (S23 x467 x468 x469 x470 x471 x472 x473 x474 x475 x476 x477 x478 x479 x480 x481 x482 x483 x484 x485 x486 x487 x488) rfl e3 SH_24 (K23 q))) ?_
            obtain ⟨x489, q489, x490, q490, x491, q491, x492, q492, x493, q493, x494, q494, x495, q495, x496, q496, x497, q497, x498, q498, x499, q499, x500, q500, x501, q501, x502, q502, x503, q503, x504, q504, x505, q505, x506, q506, x507, q507, x508, q508, x509, q509, x510, q510, h⟩ := h
            refine wpD_take (v := (V23 x489 x490 x491 x492 x493 x494 x495 x496 x497 x498 x499 x500 x501 x502 x503 x504 x505 x506 x507 x508 x509 x510)) 25 (fun w => C23 (Addr.mk b1 0 none) x489 x490 x491 x492 x493 x494 x495 x496 x497 x498 x499 x500 x501 x502 x503 x504 x505 x506 x507 x508 x509 x510 w) rfl (by kernel_rfl) (by kernel_rfl) (by kernel_rfl) (wantG rfl rfl rfl hc444) rfl rfl ⟨q489, q490, q491, q492, q493, q494, q495, q496, q497, q498, q499, q500, q501, q502, q503, q504, q505, q506, q507, q508, q509, q510⟩ (fun w q => (x_loadN (S23 x489 x490 x491 x492 x493 x494 x495 x496 x497 x498 x499 x500 x501 x502 x503 x504 x505 x506 x507 x508 x509 x510) rfl e2 SH_24 (K23 q))) ?_
            refine wpD_all (rs := [26]) (by kernel_rfl) (by simp) (allD_cons ?_ allD_nil)
            refine stepD_enterL (L' := [(23, fun w => C23 (Addr.mk b234 0 none) x445 x446 x447 x448 x449 x450 x451 x452 x453 x454 x455 x456 x457 x458 x459 x460 x461 x462 x463 x464 x465 x466 w), (21, fun _ => True), (20, fun _ => True), (13, fun _ => True), (12, fun _ => True), (5, fun _ => True)]) rfl (wantG rfl rfl rfl hc444) rfl rfl (x_call (vs := [(V23 x467 x468 x469 x470 x471 x472 x473 x474 x475 x476 x477 x478 x479 x480 x481 x482 x483 x484 x485 x486 x487 x488), (V23 x489 x490 x491 x492 x493 x494 x495 x496 x497 x498 x499 x500 x501 x502 x503 x504 x505 x506 x507 x508 x509 x510)]) rfl rfl (mapl_cons rfl (mapl_cons rfl mapl_nil)) Try.func17 NN_17 NB_17) (by kernel_rfl) (Calls.mono h ?_)
            rintro _ w20 ⟨r511, rfl, h⟩
            obtain ⟨o23, h⟩ := h
            refine ⟨_, rfl, (held_cons o23 (held_cons trivial (held_cons trivial (held_cons trivial (held_cons trivial (held_cons trivial held_nil)))))), ?_⟩
            refine wpD_all (rs := [27]) (by kernel_rfl) (by simp) (allD_cons ?_ allD_nil)
            refine stepD_enterL (L' := [(21, fun _ => True), (20, fun _ => True), (13, fun _ => True), (12, fun _ => True), (5, fun _ => True)]) rfl (wantG rfl rfl rfl hc444) rfl rfl (x_call (vs := [(V23 x445 x446 x447 x448 x449 x450 x451 x452 x453 x454 x455 x456 x457 x458 x459 x460 x461 x462 x463 x464 x465 x466), (V23 r511.1 r511.2.1 r511.2.2.1 r511.2.2.2.1 r511.2.2.2.2.1 r511.2.2.2.2.2.1 r511.2.2.2.2.2.2.1 r511.2.2.2.2.2.2.2.1 r511.2.2.2.2.2.2.2.2.1 r511.2.2.2.2.2.2.2.2.2.1 r511.2.2.2.2.2.2.2.2.2.2.1 r511.2.2.2.2.2.2.2.2.2.2.2.1 r511.2.2.2.2.2.2.2.2.2.2.2.2.1 r511.2.2.2.2.2.2.2.2.2.2.2.2.2.1 r511.2.2.2.2.2.2.2.2.2.2.2.2.2.2.1 r511.2.2.2.2.2.2.2.2.2.2.2.2.2.2.2.1 r511.2.2.2.2.2.2.2.2.2.2.2.2.2.2.2.2.1 r511.2.2.2.2.2.2.2.2.2.2.2.2.2.2.2.2.2.1 r511.2.2.2.2.2.2.2.2.2.2.2.2.2.2.2.2.2.2.1 r511.2.2.2.2.2.2.2.2.2.2.2.2.2.2.2.2.2.2.2.1 r511.2.2.2.2.2.2.2.2.2.2.2.2.2.2.2.2.2.2.2.2.1 r511.2.2.2.2.2.2.2.2.2.2.2.2.2.2.2.2.2.2.2.2.2)]) rfl rfl (mapl_cons rfl (mapl_cons rfl mapl_nil)) Try.func20 NN_20 NB_20) (by kernel_rfl) (Calls.mono h ?_)
            rintro _ w21 ⟨r512, rfl, h⟩
            refine ⟨_, rfl, (held_cons trivial (held_cons trivial (held_cons trivial (held_cons trivial (held_cons trivial held_nil))))), ?_⟩
            refine wpD_take (v := (Value.bool (!r512))) 28 (fun _ => True) rfl (by kernel_rfl) (by kernel_rfl) (by kernel_rfl) (wantG rfl rfl rfl hc444) rfl rfl trivial (fun w _ => (x_not rfl rfl)) ?_
            refine wpD_take (v := (Value.bool (!r512))) 29 (fun _ => True) rfl (by kernel_rfl) (by kernel_rfl) (by kernel_rfl) rfl rfl rfl trivial (fun w _ => (x_pickF (v := (Value.bool (!r512))) rfl rfl hc444 rfl)) ?_
            exact wpD_done (by kernel_rfl) ⟨!r512, ⟨rfl, e2, e3, e5, e6, e7, trivial⟩, h⟩
    clear h
    rintro l513 ρ w22 ⟨e58, e2, e3, e5, e6, e7, -⟩ h
    replace h := hk l513 w22 h
    clear hk
    refine wpC_cond (b := l513) e58 (fun hc514 => ?_) (fun hc514 => ?_)
    · replace h := h.1 hc514
      refine wpC_seq ?_
      refine wpC_region ?_
      refine wpR_val (v := (Value.bool false)) (w' := w22) rfl rfl rfl (x_assign (v := (Value.bool false)) rfl rfl) ?_
      refine wpR_nil ?_
      refine wpC_ret ?_
      exact ⟨.inl rfl, fun a ha => ⟨_, results_rep1 rfl ha rfl, false, rfl, h⟩⟩
    · replace h := h.2 hc514
      refine wpC_skip ?_
      refine wpC_seq ?_
      refine wpC_seq ?_
      obtain ⟨J516, h, hk⟩ := h
      refine wpC_drawJ (by kernel_rfl) (fun (x : Bool) ρ => ρ 72 = (Value.bool x) ∧ ρ 2 = (Value.pointer (some (Addr.mk b1 0 none))) ∧ ρ 3 = (Value.pointer (some (Addr.mk b2 0 none))) ∧ ρ 5 = (Value.bool r3) ∧ ρ 6 = (Value.pointer (some (Addr.mk b187 0 none))) ∧ ρ 7 = (Value.pointer (some (Addr.mk b234 0 none))) ∧ True) J516 ?_ ?_
      · clear hk
        unfold tk at h
        generalize w22.drew = w23 at h ⊢
        obtain ⟨x517, q517, x518, q518, x519, q519, x520, q520, x521, q521, x522, q522, x523, q523, x524, q524, x525, q525, x526, q526, x527, q527, x528, q528, x529, q529, x530, q530, x531, q531, x532, q532, x533, q533, x534, q534, x535, q535, x536, q536, x537, q537, x538, q538, h⟩ := h
        refine wpD_take (v := (V23 x517 x518 x519 x520 x521 x522 x523 x524 x525 x526 x527 x528 x529 x530 x531 x532 x533 x534 x535 x536 x537 x538)) 0 (fun w => C23 (Addr.mk b1 0 none) x517 x518 x519 x520 x521 x522 x523 x524 x525 x526 x527 x528 x529 x530 x531 x532 x533 x534 x535 x536 x537 x538 w) rfl (by kernel_rfl) (by kernel_rfl) (by kernel_rfl) rfl rfl rfl ⟨q517, q518, q519, q520, q521, q522, q523, q524, q525, q526, q527, q528, q529, q530, q531, q532, q533, q534, q535, q536, q537, q538⟩ (fun w q => (x_loadN (S23 x517 x518 x519 x520 x521 x522 x523 x524 x525 x526 x527 x528 x529 x530 x531 x532 x533 x534 x535 x536 x537 x538) rfl e2 SH_24 (K23 q))) ?_
        obtain ⟨x539, q539, x540, q540, x541, q541, x542, q542, x543, q543, x544, q544, x545, q545, x546, q546, x547, q547, x548, q548, x549, q549, x550, q550, x551, q551, x552, q552, x553, q553, x554, q554, x555, q555, x556, q556, x557, q557, x558, q558, x559, q559, x560, q560, h⟩ := h
        refine wpD_take (v := (V23 x539 x540 x541 x542 x543 x544 x545 x546 x547 x548 x549 x550 x551 x552 x553 x554 x555 x556 x557 x558 x559 x560)) 1 (fun w => C23 (Addr.mk b234 0 none) x539 x540 x541 x542 x543 x544 x545 x546 x547 x548 x549 x550 x551 x552 x553 x554 x555 x556 x557 x558 x559 x560 w) rfl (by kernel_rfl) (by kernel_rfl) (by kernel_rfl) rfl rfl rfl ⟨q539, q540, q541, q542, q543, q544, q545, q546, q547, q548, q549, q550, q551, q552, q553, q554, q555, q556, q557, q558, q559, q560⟩ (fun w q => (x_loadN (S23 x539 x540 x541 x542 x543 x544 x545 x546 x547 x548 x549 x550 x551 x552 x553 x554 x555 x556 x557 x558 x559 x560) rfl e7 SH_24 (K23 q))) ?_
        obtain ⟨x561, q561, x562, q562, x563, q563, x564, q564, x565, q565, x566, q566, x567, q567, x568, q568, x569, q569, x570, q570, x571, q571, x572, q572, x573, q573, x574, q574, x575, q575, x576, q576, x577, q577, x578, q578, x579, q579, x580, q580, x581, q581, x582, q582, h⟩ := h
        refine wpD_take (v := (V23 x561 x562 x563 x564 x565 x566 x567 x568 x569 x570 x571 x572 x573 x574 x575 x576 x577 x578 x579 x580 x581 x582)) 3 (fun w => C23 (Addr.mk b1 0 none) x561 x562 x563 x564 x565 x566 x567 x568 x569 x570 x571 x572 x573 x574 x575 x576 x577 x578 x579 x580 x581 x582 w) rfl (by kernel_rfl) (by kernel_rfl) (by kernel_rfl) rfl rfl rfl ⟨q561, q562, q563, q564, q565, q566, q567, q568, q569, q570, q571, q572, q573, q574, q575, q576, q577, q578, q579, q580, q581, q582⟩ (fun w q => (x_loadN (S23 x561 x562 x563 x564 x565 x566 x567 x568 x569 x570 x571 x572 x573 x574 x575 x576 x577 x578 x579 x580 x581 x582) rfl e2 SH_24 (K23 q))) ?_
        refine wpD_all (rs := [2]) (by kernel_rfl) (by simp) (allD_cons ?_ allD_nil)
        refine stepD_enterL (L' := [(3, fun w => C23 (Addr.mk b1 0 none) x561 x562 x563 x564 x565 x566 x567 x568 x569 x570 x571 x572 x573 x574 x575 x576 x577 x578 x579 x580 x581 x582 w)]) rfl rfl rfl rfl (x_call (vs := [(V23 x517 x518 x519 x520 x521 x522 x523 x524 x525 x526 x527 x528 x529 x530 x531 x532 x533 x534 x535 x536 x537 x538), (V23 x539 x540 x541 x542 x543 x544 x545 x546 x547 x548 x549 x550 x551 x552 x553 x554 x555 x556 x557 x558 x559 x560)]) rfl rfl (mapl_cons rfl (mapl_cons rfl mapl_nil)) Try.func15 NN_15 NB_15) (by kernel_rfl) (Calls.mono h ?_)
        rintro _ w24 ⟨r583, rfl, h⟩
        obtain ⟨o3, h⟩ := h
        refine ⟨_, rfl, (held_cons o3 held_nil), ?_⟩
        refine wpD_all (rs := [4]) (by kernel_rfl) (by simp) (allD_cons ?_ allD_nil)
        refine stepD_enterL (L' := []) rfl rfl rfl rfl (x_call (vs := [(V23 r583.1 r583.2.1 r583.2.2.1 r583.2.2.2.1 r583.2.2.2.2.1 r583.2.2.2.2.2.1 r583.2.2.2.2.2.2.1 r583.2.2.2.2.2.2.2.1 r583.2.2.2.2.2.2.2.2.1 r583.2.2.2.2.2.2.2.2.2.1 r583.2.2.2.2.2.2.2.2.2.2.1 r583.2.2.2.2.2.2.2.2.2.2.2.1 r583.2.2.2.2.2.2.2.2.2.2.2.2.1 r583.2.2.2.2.2.2.2.2.2.2.2.2.2.1 r583.2.2.2.2.2.2.2.2.2.2.2.2.2.2.1 r583.2.2.2.2.2.2.2.2.2.2.2.2.2.2.2.1 r583.2.2.2.2.2.2.2.2.2.2.2.2.2.2.2.2.1 r583.2.2.2.2.2.2.2.2.2.2.2.2.2.2.2.2.2.1 r583.2.2.2.2.2.2.2.2.2.2.2.2.2.2.2.2.2.2.1 r583.2.2.2.2.2.2.2.2.2.2.2.2.2.2.2.2.2.2.2.1 r583.2.2.2.2.2.2.2.2.2.2.2.2.2.2.2.2.2.2.2.2.1 r583.2.2.2.2.2.2.2.2.2.2.2.2.2.2.2.2.2.2.2.2.2), (V23 x561 x562 x563 x564 x565 x566 x567 x568 x569 x570 x571 x572 x573 x574 x575 x576 x577 x578 x579 x580 x581 x582)]) rfl rfl (mapl_cons rfl (mapl_cons rfl mapl_nil)) Try.func14 NN_14 NB_14) (by kernel_rfl) (Calls.mono h ?_)
        rintro _ w25 ⟨r584, rfl, h⟩
        refine ⟨_, rfl, held_nil, ?_⟩
        refine wpD_take (v := (Value.bool (!r584))) 5 (fun _ => True) rfl (by kernel_rfl) (by kernel_rfl) (by kernel_rfl) rfl rfl rfl trivial (fun w _ => (x_not rfl rfl)) ?_
        refine wpD_take (v := (Value.bool (!r584))) 6 (fun _ => True) rfl (by kernel_rfl) (by kernel_rfl) (by kernel_rfl) rfl rfl rfl trivial (fun w _ => (x_move (v := (Value.bool (!r584))) rfl rfl)) ?_
        rcases Bool.eq_false_or_eq_true (!r584) with hc585 | hc585
        · replace h := h.1 hc585
          refine wpD_pass 7 rfl (by kernel_rfl) (by kernel_rfl) (by kernel_rfl) (wantN rfl rfl rfl hc585) rfl rfl ?_
          refine wpD_pass 8 rfl (by kernel_rfl) (by kernel_rfl) (by kernel_rfl) (wantN rfl rfl rfl hc585) rfl rfl ?_
          refine wpD_pass 9 rfl (by kernel_rfl) (by kernel_rfl) (by kernel_rfl) (wantN rfl rfl rfl hc585) rfl rfl ?_
          refine wpD_pass 10 rfl (by kernel_rfl) (by kernel_rfl) (by kernel_rfl) (wantN rfl rfl rfl hc585) rfl rfl ?_
          refine wpD_pass 11 rfl (by kernel_rfl) (by kernel_rfl) (by kernel_rfl) (wantN rfl rfl rfl hc585) rfl rfl ?_
          refine wpD_pass 12 rfl (by kernel_rfl) (by kernel_rfl) (by kernel_rfl) (wantN rfl rfl rfl hc585) rfl rfl ?_
          refine wpD_take (v := (Value.bool true)) 13 (fun _ => True) rfl (by kernel_rfl) (by kernel_rfl) (by kernel_rfl) rfl rfl rfl trivial (fun w _ => (x_pickT (v := (Value.bool true)) rfl rfl hc585 rfl)) ?_
          exact wpD_done (by kernel_rfl) ⟨true, ⟨rfl, e2, e3, e5, e6, e7, trivial⟩, h⟩
        · replace h := h.2 hc585
          obtain ⟨x586, q586, x587, q587, x588, q588, x589, q589, x590, q590, x591, q591, x592, q592, x593, q593, x594, q594, x595, q595, x596, q596, x597, q597, x598, q598, x599, q599, x600, q600, x601, q601, x602, q602, x603, q603, x604, q604, x605, q605, x606, q606, x607, q607, h⟩ := h
          refine wpD_take (v := (V23 x586 x587 x588 x589 x590 x591 x592 x593 x594 x595 x596 x597 x598 x599 x600 x601 x602 x603 x604 x605 x606 x607)) 7 (fun w => C23 (Addr.mk b1 0 none) x586 x587 x588 x589 x590 x591 x592 x593 x594 x595 x596 x597 x598 x599 x600 x601 x602 x603 x604 x605 x606 x607 w) rfl (by kernel_rfl) (by kernel_rfl) (by kernel_rfl) (wantG rfl rfl rfl hc585) rfl rfl ⟨q586, q587, q588, q589, q590, q591, q592, q593, q594, q595, q596, q597, q598, q599, q600, q601, q602, q603, q604, q605, q606, q607⟩ (fun w q => (x_loadN (S23 x586 x587 x588 x589 x590 x591 x592 x593 x594 x595 x596 x597 x598 x599 x600 x601 x602 x603 x604 x605 x606 x607) rfl e2 SH_24 (K23 q))) ?_
          obtain ⟨x608, q608, x609, q609, x610, q610, x611, q611, x612, q612, x613, q613, x614, q614, x615, q615, x616, q616, x617, q617, x618, q618, x619, q619, x620, q620, x621, q621, x622, q622, x623, q623, x624, q624, x625, q625, x626, q626, x627, q627, x628, q628, x629, q629, h⟩ := h
          refine wpD_take (v := (V23 x608 x609 x610 x611 x612 x613 x614 x615 x616 x617 x618 x619 x620 x621 x622 x623 x624 x625 x626 x627 x628 x629)) 8 (fun w => C23 (Addr.mk b187 0 none) x608 x609 x610 x611 x612 x613 x614 x615 x616 x617 x618 x619 x620 x621 x622 x623 x624 x625 x626 x627 x628 x629 w) rfl (by kernel_rfl) (by kernel_rfl) (by kernel_rfl) (wantG rfl rfl rfl hc585) rfl rfl ⟨q608, q609, q610, q611, q612, q613, q614, q615, q616, q617, q618, q619, q620, q621, q622, q623, q624, q625, q626, q627, q628, q629⟩ (fun w q => (x_loadN (S23 x608 x609 x610 x611 x612 x613 x614 x615 x616 x617 x618 x619 x620 x621 x622 x623 x624 x625 x626 x627 x628 x629) rfl e6 SH_24 (K23 q))) ?_
          obtain ⟨x630, q630, x631, q631, x632, q632, x633, q633, x634, q634, x635, q635, x636, q636, x637, q637, x638, q638, x639, q639, x640, q640, x641, q641, x642, q642, x643, q643, x644, q644, x645, q645, x646, q646, x647, q647, x648, q648, x649, q649, x650, q650, x651, q651, h⟩ := h
          refine wpD_take (v := (V23 x630 x631 x632 x633 x634 x635 x636 x637 x638 x639 x640 x641 x642 x643 x644 x645 x646 x647 x648 x649 x650 x651)) 10 (fun w => C23 (Addr.mk b1 0 none) x630 x631 x632 x633 x634 x635 x636 x637 x638 x639 x640 x641 x642 x643 x644 x645 x646 x647 x648 x649 x650 x651 w) rfl (by kernel_rfl) (by kernel_rfl) (by kernel_rfl) (wantG rfl rfl rfl hc585) rfl rfl ⟨q630, q631, q632, q633, q634, q635, q636, q637, q638, q639, q640, q641, q642, q643, q644, q645, q646, q647, q648, q649, q650, q651⟩ (fun w q => (x_loadN (S23 x630 x631 x632 x633 x634 x635 x636 x637 x638 x639 x640 x641 x642 x643 x644 x645 x646 x647 x648 x649 x650 x651) rfl e2 SH_24 (K23 q))) ?_
          refine wpD_all (rs := [9]) (by kernel_rfl) (by simp) (allD_cons ?_ allD_nil)
          refine stepD_enterL (L' := [(10, fun w => C23 (Addr.mk b1 0 none) x630 x631 x632 x633 x634 x635 x636 x637 x638 x639 x640 x641 x642 x643 x644 x645 x646 x647 x648 x649 x650 x651 w), (5, fun _ => True)]) rfl (wantG rfl rfl rfl hc585) rfl rfl (x_call (vs := [(V23 x586 x587 x588 x589 x590 x591 x592 x593 x594 x595 x596 x597 x598 x599 x600 x601 x602 x603 x604 x605 x606 x607), (V23 x608 x609 x610 x611 x612 x613 x614 x615 x616 x617 x618 x619 x620 x621 x622 x623 x624 x625 x626 x627 x628 x629)]) rfl rfl (mapl_cons rfl (mapl_cons rfl mapl_nil)) Try.func17 NN_17 NB_17) (by kernel_rfl) (Calls.mono h ?_)
          rintro _ w26 ⟨r652, rfl, h⟩
          obtain ⟨o10, h⟩ := h
          refine ⟨_, rfl, (held_cons o10 (held_cons trivial held_nil)), ?_⟩
          refine wpD_all (rs := [11]) (by kernel_rfl) (by simp) (allD_cons ?_ allD_nil)
          refine stepD_enterL (L' := [(5, fun _ => True)]) rfl (wantG rfl rfl rfl hc585) rfl rfl (x_call (vs := [(V23 r652.1 r652.2.1 r652.2.2.1 r652.2.2.2.1 r652.2.2.2.2.1 r652.2.2.2.2.2.1 r652.2.2.2.2.2.2.1 r652.2.2.2.2.2.2.2.1 r652.2.2.2.2.2.2.2.2.1 r652.2.2.2.2.2.2.2.2.2.1 r652.2.2.2.2.2.2.2.2.2.2.1 r652.2.2.2.2.2.2.2.2.2.2.2.1 r652.2.2.2.2.2.2.2.2.2.2.2.2.1 r652.2.2.2.2.2.2.2.2.2.2.2.2.2.1 r652.2.2.2.2.2.2.2.2.2.2.2.2.2.2.1 r652.2.2.2.2.2.2.2.2.2.2.2.2.2.2.2.1 r652.2.2.2.2.2.2.2.2.2.2.2.2.2.2.2.2.1 r652.2.2.2.2.2.2.2.2.2.2.2.2.2.2.2.2.2.1 r652.2.2.2.2.2.2.2.2.2.2.2.2.2.2.2.2.2.2.1 r652.2.2.2.2.2.2.2.2.2.2.2.2.2.2.2.2.2.2.2.1 r652.2.2.2.2.2.2.2.2.2.2.2.2.2.2.2.2.2.2.2.2.1 r652.2.2.2.2.2.2.2.2.2.2.2.2.2.2.2.2.2.2.2.2.2), (V23 x630 x631 x632 x633 x634 x635 x636 x637 x638 x639 x640 x641 x642 x643 x644 x645 x646 x647 x648 x649 x650 x651)]) rfl rfl (mapl_cons rfl (mapl_cons rfl mapl_nil)) Try.func14 NN_14 NB_14) (by kernel_rfl) (Calls.mono h ?_)
          rintro _ w27 ⟨r653, rfl, h⟩
          refine ⟨_, rfl, (held_cons trivial held_nil), ?_⟩
          refine wpD_take (v := (Value.bool (!r653))) 12 (fun _ => True) rfl (by kernel_rfl) (by kernel_rfl) (by kernel_rfl) (wantG rfl rfl rfl hc585) rfl rfl trivial (fun w _ => (x_not rfl rfl)) ?_
          refine wpD_take (v := (Value.bool (!r653))) 13 (fun _ => True) rfl (by kernel_rfl) (by kernel_rfl) (by kernel_rfl) rfl rfl rfl trivial (fun w _ => (x_pickF (v := (Value.bool (!r653))) rfl rfl hc585 rfl)) ?_
          exact wpD_done (by kernel_rfl) ⟨!r653, ⟨rfl, e2, e3, e5, e6, e7, trivial⟩, h⟩
      clear h
      rintro l654 ρ w28 ⟨e72, e2, e3, e5, e6, e7, -⟩ h
      replace h := hk l654 w28 h
      clear hk
      refine wpC_cond (b := l654) e72 (fun hc655 => ?_) (fun hc655 => ?_)
      · replace h := h.1 hc655
        refine wpC_seq ?_
        refine wpC_region ?_
        refine wpR_val (v := (Value.bool false)) (w' := w28) rfl rfl rfl (x_assign (v := (Value.bool false)) rfl rfl) ?_
        refine wpR_nil ?_
        refine wpC_ret ?_
        exact ⟨.inl rfl, fun a ha => ⟨_, results_rep1 rfl ha rfl, false, rfl, h⟩⟩
      · replace h := h.2 hc655
        refine wpC_skip ?_
        refine wpC_seq ?_
        refine wpC_region ?_
        obtain ⟨x656, q656, x657, q657, x658, q658, x659, q659, x660, q660, x661, q661, x662, q662, x663, q663, x664, q664, x665, q665, x666, q666, x667, q667, x668, q668, x669, q669, x670, q670, x671, q671, x672, q672, x673, q673, x674, q674, x675, q675, x676, q676, x677, q677, h⟩ := h
        refine wpR_val (v := (V23 x656 x657 x658 x659 x660 x661 x662 x663 x664 x665 x666 x667 x668 x669 x670 x671 x672 x673 x674 x675 x676 x677)) (w' := w28) rfl rfl rfl (x_loadN (S23 x656 x657 x658 x659 x660 x661 x662 x663 x664 x665 x666 x667 x668 x669 x670 x671 x672 x673 x674 x675 x676 x677) rfl e2 SH_24 (K23 ⟨q656, q657, q658, q659, q660, q661, q662, q663, q664, q665, q666, q667, q668, q669, q670, q671, q672, q673, q674, q675, q676, q677⟩)) ?_
        obtain ⟨x678, q678, x679, q679, x680, q680, x681, q681, x682, q682, x683, q683, x684, q684, x685, q685, x686, q686, x687, q687, x688, q688, x689, q689, x690, q690, x691, q691, x692, q692, x693, q693, x694, q694, x695, q695, x696, q696, x697, q697, x698, q698, x699, q699, h⟩ := h
        refine wpR_val (v := (V23 x678 x679 x680 x681 x682 x683 x684 x685 x686 x687 x688 x689 x690 x691 x692 x693 x694 x695 x696 x697 x698 x699)) (w' := w28) rfl rfl rfl (x_loadN (S23 x678 x679 x680 x681 x682 x683 x684 x685 x686 x687 x688 x689 x690 x691 x692 x693 x694 x695 x696 x697 x698 x699) rfl e3 SH_24 (K23 ⟨q678, q679, q680, q681, q682, q683, q684, q685, q686, q687, q688, q689, q690, q691, q692, q693, q694, q695, q696, q697, q698, q699⟩)) ?_
        refine wpR_enter rfl rfl rfl (x_call (vs := [(V23 x656 x657 x658 x659 x660 x661 x662 x663 x664 x665 x666 x667 x668 x669 x670 x671 x672 x673 x674 x675 x676 x677), (V23 x678 x679 x680 x681 x682 x683 x684 x685 x686 x687 x688 x689 x690 x691 x692 x693 x694 x695 x696 x697 x698 x699)]) rfl rfl (mapl_cons rfl (mapl_cons rfl mapl_nil)) Try.func12 NN_12 NB_12) (Calls.mono h ?_)
        rintro _ w29 ⟨r700, rfl, h⟩
        refine ⟨_, rfl, ?_⟩
        refine wpR_val (v := (Value.bool r700)) (w' := w29) rfl rfl rfl (x_assign (v := (Value.bool r700)) rfl rfl) ?_
        refine wpR_nil ?_
        refine wpC_seq ?_
        refine wpC_cut (fun ρ => ρ 2 = (Value.pointer (some (Addr.mk b1 0 none))) ∧ ρ 3 = (Value.pointer (some (Addr.mk b2 0 none))) ∧ ρ 5 = (Value.bool r3) ∧ ρ 6 = (Value.pointer (some (Addr.mk b187 0 none))) ∧ ρ 7 = (Value.pointer (some (Addr.mk b234 0 none))) ∧ ρ 8 = (Value.bool r700) ∧ True) ⟨e2, e3, e5, e6, e7, rfl, trivial⟩ ?_
        rintro ρ ⟨e2, e3, e5, e6, e7, e8, -⟩
        refine wpC_region ?_
        refine wpR_val (v := (Value.bool r3)) (w' := w29) rfl rfl rfl (x_move (v := (Value.bool r3)) rfl e5) ?_
        refine wpR_val (v := (Value.bool r3)) (w' := w29) rfl rfl rfl (x_move (v := (Value.bool r3)) rfl rfl) ?_
        obtain ⟨J701, h, hk⟩ := h
        refine wpR_joinJ 6 (fun x ρ => ρ 83 = Value.bool x ∧ ρ 3 = (Value.pointer (some (Addr.mk b2 0 none))) ∧ ρ 7 = (Value.pointer (some (Addr.mk b234 0 none))) ∧ ρ 8 = (Value.bool r700) ∧ True) (J701) ?_ ?_
        · clear hk
          rcases Bool.eq_false_or_eq_true (r3) with hc702 | hc702
          · replace h := h.1 hc702
            refine wpR_val (v := (Value.bool r700)) (w' := w29) (wantG rfl rfl rfl hc702) rfl rfl (x_move (v := (Value.bool r700)) rfl e8) ?_
            obtain ⟨x703, q703, x704, q704, x705, q705, x706, q706, x707, q707, x708, q708, x709, q709, x710, q710, x711, q711, x712, q712, x713, q713, x714, q714, x715, q715, x716, q716, x717, q717, x718, q718, x719, q719, x720, q720, x721, q721, x722, q722, x723, q723, x724, q724, h⟩ := h
            refine wpR_val (v := (V23 x703 x704 x705 x706 x707 x708 x709 x710 x711 x712 x713 x714 x715 x716 x717 x718 x719 x720 x721 x722 x723 x724)) (w' := w29) (wantG rfl rfl rfl hc702) rfl rfl (x_loadN (S23 x703 x704 x705 x706 x707 x708 x709 x710 x711 x712 x713 x714 x715 x716 x717 x718 x719 x720 x721 x722 x723 x724) rfl e6 SH_24 (K23 ⟨q703, q704, q705, q706, q707, q708, q709, q710, q711, q712, q713, q714, q715, q716, q717, q718, q719, q720, q721, q722, q723, q724⟩)) ?_
            obtain ⟨x725, q725, x726, q726, x727, q727, x728, q728, x729, q729, x730, q730, x731, q731, x732, q732, x733, q733, x734, q734, x735, q735, x736, q736, x737, q737, x738, q738, x739, q739, x740, q740, x741, q741, x742, q742, x743, q743, x744, q744, x745, q745, x746, q746, h⟩ := h
            refine wpR_val (v := (V23 x725 x726 x727 x728 x729 x730 x731 x732 x733 x734 x735 x736 x737 x738 x739 x740 x741 x742 x743 x744 x745 x746)) (w' := w29) (wantG rfl rfl rfl hc702) rfl rfl (x_loadN (S23 x725 x726 x727 x728 x729 x730 x731 x732 x733 x734 x735 x736 x737 x738 x739 x740 x741 x742 x743 x744 x745 x746) rfl e2 SH_24 (K23 ⟨q725, q726, q727, q728, q729, q730, q731, q732, q733, q734, q735, q736, q737, q738, q739, q740, q741, q742, q743, q744, q745, q746⟩)) ?_
            refine wpR_enter (wantG rfl rfl rfl hc702) rfl rfl (x_call (vs := [(V23 x703 x704 x705 x706 x707 x708 x709 x710 x711 x712 x713 x714 x715 x716 x717 x718 x719 x720 x721 x722 x723 x724), (V23 x725 x726 x727 x728 x729 x730 x731 x732 x733 x734 x735 x736 x737 x738 x739 x740 x741 x742 x743 x744 x745 x746)]) rfl rfl (mapl_cons rfl (mapl_cons rfl mapl_nil)) Try.func20 NN_20 NB_20) (Calls.mono h ?_)
            rintro _ w30 ⟨r747, rfl, h⟩
            refine ⟨_, rfl, ?_⟩
            refine wpR_val (v := (Value.bool (r700 == r747))) (w' := w30) (wantG rfl rfl rfl hc702) rfl rfl (x_eqlB rfl rfl rfl isBoolT_4) ?_
            refine wpR_val (v := (Value.bool (r700 == r747))) (w' := w30) rfl rfl rfl (x_pickT (v := (Value.bool (r700 == r747))) rfl rfl hc702 rfl) ?_
            refine wpR_nil ?_
            exact ⟨r700 == r747, ⟨rfl, e3, e7, e8, trivial⟩, h⟩
          · replace h := h.2 hc702
            refine wpR_pass (wantN rfl rfl rfl hc702) rfl rfl ?_
            refine wpR_pass (wantN rfl rfl rfl hc702) rfl rfl ?_
            refine wpR_pass (wantN rfl rfl rfl hc702) rfl rfl ?_
            refine wpR_pass (wantN rfl rfl rfl hc702) rfl rfl ?_
            refine wpR_pass (wantN rfl rfl rfl hc702) rfl rfl ?_
            refine wpR_val (v := (Value.bool false)) (w' := w29) rfl rfl rfl (x_pickF (v := (Value.bool false)) rfl rfl hc702 rfl) ?_
            refine wpR_nil ?_
            exact ⟨false, ⟨rfl, e3, e7, e8, trivial⟩, h⟩
        clear h
        rintro c748 ρ w31 ⟨e83, e3, e7, e8, -⟩ h
        replace h := hk c748 w31 h
        clear hk
        refine wpR_val (v := (Value.bool c748)) (w' := w31) rfl rfl rfl (x_move (v := (Value.bool c748)) rfl e83) ?_
        obtain ⟨J749, h, hk⟩ := h
        refine wpR_joinJ 6 (fun x ρ => ρ 90 = Value.bool x ∧ True) (J749) ?_ ?_
        · clear hk
          rcases Bool.eq_false_or_eq_true (c748) with hc750 | hc750
          · replace h := h.1 hc750
            refine wpR_val (v := (Value.bool r700)) (w' := w31) (wantG rfl rfl rfl hc750) rfl rfl (x_move (v := (Value.bool r700)) rfl e8) ?_
            obtain ⟨x751, q751, x752, q752, x753, q753, x754, q754, x755, q755, x756, q756, x757, q757, x758, q758, x759, q759, x760, q760, x761, q761, x762, q762, x763, q763, x764, q764, x765, q765, x766, q766, x767, q767, x768, q768, x769, q769, x770, q770, x771, q771, x772, q772, h⟩ := h
            refine wpR_val (v := (V23 x751 x752 x753 x754 x755 x756 x757 x758 x759 x760 x761 x762 x763 x764 x765 x766 x767 x768 x769 x770 x771 x772)) (w' := w31) (wantG rfl rfl rfl hc750) rfl rfl (x_loadN (S23 x751 x752 x753 x754 x755 x756 x757 x758 x759 x760 x761 x762 x763 x764 x765 x766 x767 x768 x769 x770 x771 x772) rfl e7 SH_24 (K23 ⟨q751, q752, q753, q754, q755, q756, q757, q758, q759, q760, q761, q762, q763, q764, q765, q766, q767, q768, q769, q770, q771, q772⟩)) ?_
            obtain ⟨x773, q773, x774, q774, x775, q775, x776, q776, x777, q777, x778, q778, x779, q779, x780, q780, x781, q781, x782, q782, x783, q783, x784, q784, x785, q785, x786, q786, x787, q787, x788, q788, x789, q789, x790, q790, x791, q791, x792, q792, x793, q793, x794, q794, h⟩ := h
            refine wpR_val (v := (V23 x773 x774 x775 x776 x777 x778 x779 x780 x781 x782 x783 x784 x785 x786 x787 x788 x789 x790 x791 x792 x793 x794)) (w' := w31) (wantG rfl rfl rfl hc750) rfl rfl (x_loadN (S23 x773 x774 x775 x776 x777 x778 x779 x780 x781 x782 x783 x784 x785 x786 x787 x788 x789 x790 x791 x792 x793 x794) rfl e3 SH_24 (K23 ⟨q773, q774, q775, q776, q777, q778, q779, q780, q781, q782, q783, q784, q785, q786, q787, q788, q789, q790, q791, q792, q793, q794⟩)) ?_
            refine wpR_enter (wantG rfl rfl rfl hc750) rfl rfl (x_call (vs := [(V23 x751 x752 x753 x754 x755 x756 x757 x758 x759 x760 x761 x762 x763 x764 x765 x766 x767 x768 x769 x770 x771 x772), (V23 x773 x774 x775 x776 x777 x778 x779 x780 x781 x782 x783 x784 x785 x786 x787 x788 x789 x790 x791 x792 x793 x794)]) rfl rfl (mapl_cons rfl (mapl_cons rfl mapl_nil)) Try.func20 NN_20 NB_20) (Calls.mono h ?_)
            rintro _ w32 ⟨r795, rfl, h⟩
            refine ⟨_, rfl, ?_⟩
            refine wpR_val (v := (Value.bool (r700 == r795))) (w' := w32) (wantG rfl rfl rfl hc750) rfl rfl (x_eqlB rfl rfl rfl isBoolT_4) ?_
            refine wpR_val (v := (Value.bool (r700 == r795))) (w' := w32) rfl rfl rfl (x_pickT (v := (Value.bool (r700 == r795))) rfl rfl hc750 rfl) ?_
            refine wpR_nil ?_
            exact ⟨r700 == r795, ⟨rfl, trivial⟩, h⟩
          · replace h := h.2 hc750
            refine wpR_pass (wantN rfl rfl rfl hc750) rfl rfl ?_
            refine wpR_pass (wantN rfl rfl rfl hc750) rfl rfl ?_
            refine wpR_pass (wantN rfl rfl rfl hc750) rfl rfl ?_
            refine wpR_pass (wantN rfl rfl rfl hc750) rfl rfl ?_
            refine wpR_pass (wantN rfl rfl rfl hc750) rfl rfl ?_
            refine wpR_val (v := (Value.bool false)) (w' := w31) rfl rfl rfl (x_pickF (v := (Value.bool false)) rfl rfl hc750 rfl) ?_
            refine wpR_nil ?_
            exact ⟨false, ⟨rfl, trivial⟩, h⟩
        clear h
        rintro c796 ρ w33 ⟨e90, -⟩ h
        replace h := hk c796 w33 h
        clear hk
        refine wpR_val (v := (Value.bool c796)) (w' := w33) rfl rfl rfl (x_assign (v := (Value.bool c796)) rfl e90) ?_
        refine wpR_nil ?_
        refine wpC_ret ?_
        exact ⟨.inl rfl, fun a ha => ⟨_, results_rep1 rfl ha rfl, c796, rfl, h⟩⟩


end Go.Proofs.Ytadlnbdelkbboaa
