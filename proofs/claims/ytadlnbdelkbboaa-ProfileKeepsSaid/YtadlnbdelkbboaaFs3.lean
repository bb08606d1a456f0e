import Derived.Test.YtadlnbdelkbboaaRows
import Derived.Test.YtadlnbdelkbboaaFs1
import Derived.Test.YtadlnbdelkbboaaDecRaw
namespace Go.Proofs.Ytadlnbdelkbboaa
open Go.Dec
set_option maxHeartbeats 400000
set_option maxRecDepth 100000

/-- lingualaw13.small -/
def F8  (w0 : World) (K : Bool → World → Prop) : Prop :=
  callC Try.prog 21 #[] E23 w0 fun r1 w1 =>
  nw 24 (A23 (ByteArray.mk #[]) 0 0 0 false 0 false false 0 0 0 0 Sl.nil 0 0 0 0 false 0 0 0 0) w1 fun b2 w2 =>
  st (Addr.mk b2 0 none) (S23 r1.1 r1.2.1 r1.2.2.1 r1.2.2.2.1 r1.2.2.2.2.1 r1.2.2.2.2.2.1 r1.2.2.2.2.2.2.1 r1.2.2.2.2.2.2.2.1 r1.2.2.2.2.2.2.2.2.1 r1.2.2.2.2.2.2.2.2.2.1 r1.2.2.2.2.2.2.2.2.2.2.1 r1.2.2.2.2.2.2.2.2.2.2.2.1 r1.2.2.2.2.2.2.2.2.2.2.2.2.1 r1.2.2.2.2.2.2.2.2.2.2.2.2.2.1 r1.2.2.2.2.2.2.2.2.2.2.2.2.2.2.1 r1.2.2.2.2.2.2.2.2.2.2.2.2.2.2.2.1 r1.2.2.2.2.2.2.2.2.2.2.2.2.2.2.2.2.1 r1.2.2.2.2.2.2.2.2.2.2.2.2.2.2.2.2.2.1 r1.2.2.2.2.2.2.2.2.2.2.2.2.2.2.2.2.2.2.1 r1.2.2.2.2.2.2.2.2.2.2.2.2.2.2.2.2.2.2.2.1 r1.2.2.2.2.2.2.2.2.2.2.2.2.2.2.2.2.2.2.2.2.1 r1.2.2.2.2.2.2.2.2.2.2.2.2.2.2.2.2.2.2.2.2.2) w2 fun w3 =>
  callC Try.prog 22 #[] E23 w3 fun r4 w4 =>
  nw 24 (A23 (ByteArray.mk #[]) 0 0 0 false 0 false false 0 0 0 0 Sl.nil 0 0 0 0 false 0 0 0 0) w4 fun b5 w5 =>
  st (Addr.mk b5 0 none) (S23 r4.1 r4.2.1 r4.2.2.1 r4.2.2.2.1 r4.2.2.2.2.1 r4.2.2.2.2.2.1 r4.2.2.2.2.2.2.1 r4.2.2.2.2.2.2.2.1 r4.2.2.2.2.2.2.2.2.1 r4.2.2.2.2.2.2.2.2.2.1 r4.2.2.2.2.2.2.2.2.2.2.1 r4.2.2.2.2.2.2.2.2.2.2.2.1 r4.2.2.2.2.2.2.2.2.2.2.2.2.1 r4.2.2.2.2.2.2.2.2.2.2.2.2.2.1 r4.2.2.2.2.2.2.2.2.2.2.2.2.2.2.1 r4.2.2.2.2.2.2.2.2.2.2.2.2.2.2.2.1 r4.2.2.2.2.2.2.2.2.2.2.2.2.2.2.2.2.1 r4.2.2.2.2.2.2.2.2.2.2.2.2.2.2.2.2.2.1 r4.2.2.2.2.2.2.2.2.2.2.2.2.2.2.2.2.2.2.1 r4.2.2.2.2.2.2.2.2.2.2.2.2.2.2.2.2.2.2.2.1 r4.2.2.2.2.2.2.2.2.2.2.2.2.2.2.2.2.2.2.2.2.1 r4.2.2.2.2.2.2.2.2.2.2.2.2.2.2.2.2.2.2.2.2.2) w5 fun w6 =>
  nw 9 #[(Value.string (ByteArray.mk #[116, 120, 116]))] w6 fun b7 w7 =>
  nw 24 (A23 (ByteArray.mk #[]) 0 0 0 false 0 false false 0 0 0 0 Sl.nil 0 0 0 0 false 0 0 0 0) w7 fun b8 w8 =>
  st (Addr.mk b8 0 none) (S23 (ByteArray.mk #[112]) 2 5 1 false 0 false false 100 1 1 500 (⟨some ⟨b7, 0, none⟩, 1, 1⟩ : Sl) 0 0 0 0 false 1 0 1 0) w8 fun w9 =>
  nw 9 #[(Value.string (ByteArray.mk #[112, 110, 103])), (Value.string (ByteArray.mk #[116, 120, 116])), (Value.string (ByteArray.mk #[106, 112, 103]))] w9 fun b10 w10 =>
  nw 24 (A23 (ByteArray.mk #[]) 0 0 0 false 0 false false 0 0 0 0 Sl.nil 0 0 0 0 false 0 0 0 0) w10 fun b11 w11 =>
  st (Addr.mk b11 0 none) (S23 (ByteArray.mk #[112]) 2 0 2 false 1 false false 200 3 2 1000 (⟨some ⟨b10, 0, none⟩, 3, 3⟩ : Sl) 0 0 0 0 false 1 0 1 0) w11 fun w12 =>
  callC Try.prog 21 #[] E23 w12 fun r13 w13 =>
  nw 24 (A23 (ByteArray.mk #[]) 0 0 0 false 0 false false 0 0 0 0 Sl.nil 0 0 0 0 false 0 0 0 0) w13 fun b14 w14 =>
  st (Addr.mk b14 0 none) (S23 r13.1 r13.2.1 r13.2.2.1 r13.2.2.2.1 r13.2.2.2.2.1 r13.2.2.2.2.2.1 r13.2.2.2.2.2.2.1 r13.2.2.2.2.2.2.2.1 r13.2.2.2.2.2.2.2.2.1 r13.2.2.2.2.2.2.2.2.2.1 r13.2.2.2.2.2.2.2.2.2.2.1 r13.2.2.2.2.2.2.2.2.2.2.2.1 r13.2.2.2.2.2.2.2.2.2.2.2.2.1 r13.2.2.2.2.2.2.2.2.2.2.2.2.2.1 r13.2.2.2.2.2.2.2.2.2.2.2.2.2.2.1 r13.2.2.2.2.2.2.2.2.2.2.2.2.2.2.2.1 r13.2.2.2.2.2.2.2.2.2.2.2.2.2.2.2.2.1 r13.2.2.2.2.2.2.2.2.2.2.2.2.2.2.2.2.2.1 r13.2.2.2.2.2.2.2.2.2.2.2.2.2.2.2.2.2.2.1 r13.2.2.2.2.2.2.2.2.2.2.2.2.2.2.2.2.2.2.2.1 r13.2.2.2.2.2.2.2.2.2.2.2.2.2.2.2.2.2.2.2.2.1 r13.2.2.2.2.2.2.2.2.2.2.2.2.2.2.2.2.2.2.2.2.2) w14 fun w15 =>
  st ((Addr.mk b14 0 none).add 8) [(Value.int .i64 39)] w15 fun w16 =>
  callC Try.prog 21 #[] E23 w16 fun r17 w17 =>
  nw 24 (A23 (ByteArray.mk #[]) 0 0 0 false 0 false false 0 0 0 0 Sl.nil 0 0 0 0 false 0 0 0 0) w17 fun b18 w18 =>
  st (Addr.mk b18 0 none) (S23 r17.1 r17.2.1 r17.2.2.1 r17.2.2.2.1 r17.2.2.2.2.1 r17.2.2.2.2.2.1 r17.2.2.2.2.2.2.1 r17.2.2.2.2.2.2.2.1 r17.2.2.2.2.2.2.2.2.1 r17.2.2.2.2.2.2.2.2.2.1 r17.2.2.2.2.2.2.2.2.2.2.1 r17.2.2.2.2.2.2.2.2.2.2.2.1 r17.2.2.2.2.2.2.2.2.2.2.2.2.1 r17.2.2.2.2.2.2.2.2.2.2.2.2.2.1 r17.2.2.2.2.2.2.2.2.2.2.2.2.2.2.1 r17.2.2.2.2.2.2.2.2.2.2.2.2.2.2.2.1 r17.2.2.2.2.2.2.2.2.2.2.2.2.2.2.2.2.1 r17.2.2.2.2.2.2.2.2.2.2.2.2.2.2.2.2.2.1 r17.2.2.2.2.2.2.2.2.2.2.2.2.2.2.2.2.2.2.1 r17.2.2.2.2.2.2.2.2.2.2.2.2.2.2.2.2.2.2.2.1 r17.2.2.2.2.2.2.2.2.2.2.2.2.2.2.2.2.2.2.2.2.1 r17.2.2.2.2.2.2.2.2.2.2.2.2.2.2.2.2.2.2.2.2.2) w18 fun w19 =>
  st ((Addr.mk b18 0 none).add 19) [(Value.int .i64 5)] w19 fun w20 =>
  st ((Addr.mk b18 0 none).add 20) [(Value.int .i64 5)] w20 fun w21 =>
  jn (fun (J23 : Bool → World → Prop) => tk w21 fun w22 =>
    L23 (Addr.mk b2 0 none) w22 fun x24 x25 x26 x27 x28 x29 x30 x31 x32 x33 x34 x35 x36 x37 x38 x39 x40 x41 x42 x43 x44 x45 =>
    L23 (Addr.mk b5 0 none) w22 fun x46 x47 x48 x49 x50 x51 x52 x53 x54 x55 x56 x57 x58 x59 x60 x61 x62 x63 x64 x65 x66 x67 =>
    callC Try.prog 12 #[(V23 x24 x25 x26 x27 x28 x29 x30 x31 x32 x33 x34 x35 x36 x37 x38 x39 x40 x41 x42 x43 x44 x45), (V23 x46 x47 x48 x49 x50 x51 x52 x53 x54 x55 x56 x57 x58 x59 x60 x61 x62 x63 x64 x65 x66 x67)] (fun (r : Bool) => (Value.bool r)) w22 fun r68 w23 =>
    cnd (!r68)
      (
      L23 (Addr.mk b2 0 none) w23 fun x70 x71 x72 x73 x74 x75 x76 x77 x78 x79 x80 x81 x82 x83 x84 x85 x86 x87 x88 x89 x90 x91 =>
      L23 (Addr.mk b5 0 none) w23 fun x92 x93 x94 x95 x96 x97 x98 x99 x100 x101 x102 x103 x104 x105 x106 x107 x108 x109 x110 x111 x112 x113 =>
      L23 (Addr.mk b8 0 none) w23 fun x114 x115 x116 x117 x118 x119 x120 x121 x122 x123 x124 x125 x126 x127 x128 x129 x130 x131 x132 x133 x134 x135 =>
      callC Try.prog 15 #[(V23 x70 x71 x72 x73 x74 x75 x76 x77 x78 x79 x80 x81 x82 x83 x84 x85 x86 x87 x88 x89 x90 x91), (V23 x92 x93 x94 x95 x96 x97 x98 x99 x100 x101 x102 x103 x104 x105 x106 x107 x108 x109 x110 x111 x112 x113)] E23 w23 fun r136 w24 =>
      (C23 (Addr.mk b8 0 none) x114 x115 x116 x117 x118 x119 x120 x121 x122 x123 x124 x125 x126 x127 x128 x129 x130 x131 x132 x133 x134 x135 w24) ∧
      callC Try.prog 14 #[(V23 r136.1 r136.2.1 r136.2.2.1 r136.2.2.2.1 r136.2.2.2.2.1 r136.2.2.2.2.2.1 r136.2.2.2.2.2.2.1 r136.2.2.2.2.2.2.2.1 r136.2.2.2.2.2.2.2.2.1 r136.2.2.2.2.2.2.2.2.2.1 r136.2.2.2.2.2.2.2.2.2.2.1 r136.2.2.2.2.2.2.2.2.2.2.2.1 r136.2.2.2.2.2.2.2.2.2.2.2.2.1 r136.2.2.2.2.2.2.2.2.2.2.2.2.2.1 r136.2.2.2.2.2.2.2.2.2.2.2.2.2.2.1 r136.2.2.2.2.2.2.2.2.2.2.2.2.2.2.2.1 r136.2.2.2.2.2.2.2.2.2.2.2.2.2.2.2.2.1 r136.2.2.2.2.2.2.2.2.2.2.2.2.2.2.2.2.2.1 r136.2.2.2.2.2.2.2.2.2.2.2.2.2.2.2.2.2.2.1 r136.2.2.2.2.2.2.2.2.2.2.2.2.2.2.2.2.2.2.2.1 r136.2.2.2.2.2.2.2.2.2.2.2.2.2.2.2.2.2.2.2.2.1 r136.2.2.2.2.2.2.2.2.2.2.2.2.2.2.2.2.2.2.2.2.2), (V23 x114 x115 x116 x117 x118 x119 x120 x121 x122 x123 x124 x125 x126 x127 x128 x129 x130 x131 x132 x133 x134 x135)] (fun (r : Bool) => (Value.bool r)) w24 fun r137 w25 =>
      cnd (r137)
        (
        L23 (Addr.mk b2 0 none) w25 fun x139 x140 x141 x142 x143 x144 x145 x146 x147 x148 x149 x150 x151 x152 x153 x154 x155 x156 x157 x158 x159 x160 =>
        L23 (Addr.mk b5 0 none) w25 fun x161 x162 x163 x164 x165 x166 x167 x168 x169 x170 x171 x172 x173 x174 x175 x176 x177 x178 x179 x180 x181 x182 =>
        L23 (Addr.mk b11 0 none) w25 fun x183 x184 x185 x186 x187 x188 x189 x190 x191 x192 x193 x194 x195 x196 x197 x198 x199 x200 x201 x202 x203 x204 =>
        callC Try.prog 17 #[(V23 x139 x140 x141 x142 x143 x144 x145 x146 x147 x148 x149 x150 x151 x152 x153 x154 x155 x156 x157 x158 x159 x160), (V23 x161 x162 x163 x164 x165 x166 x167 x168 x169 x170 x171 x172 x173 x174 x175 x176 x177 x178 x179 x180 x181 x182)] E23 w25 fun r205 w26 =>
        (C23 (Addr.mk b11 0 none) x183 x184 x185 x186 x187 x188 x189 x190 x191 x192 x193 x194 x195 x196 x197 x198 x199 x200 x201 x202 x203 x204 w26) ∧
        callC Try.prog 14 #[(V23 r205.1 r205.2.1 r205.2.2.1 r205.2.2.2.1 r205.2.2.2.2.1 r205.2.2.2.2.2.1 r205.2.2.2.2.2.2.1 r205.2.2.2.2.2.2.2.1 r205.2.2.2.2.2.2.2.2.1 r205.2.2.2.2.2.2.2.2.2.1 r205.2.2.2.2.2.2.2.2.2.2.1 r205.2.2.2.2.2.2.2.2.2.2.2.1 r205.2.2.2.2.2.2.2.2.2.2.2.2.1 r205.2.2.2.2.2.2.2.2.2.2.2.2.2.1 r205.2.2.2.2.2.2.2.2.2.2.2.2.2.2.1 r205.2.2.2.2.2.2.2.2.2.2.2.2.2.2.2.1 r205.2.2.2.2.2.2.2.2.2.2.2.2.2.2.2.2.1 r205.2.2.2.2.2.2.2.2.2.2.2.2.2.2.2.2.2.1 r205.2.2.2.2.2.2.2.2.2.2.2.2.2.2.2.2.2.2.1 r205.2.2.2.2.2.2.2.2.2.2.2.2.2.2.2.2.2.2.2.1 r205.2.2.2.2.2.2.2.2.2.2.2.2.2.2.2.2.2.2.2.2.1 r205.2.2.2.2.2.2.2.2.2.2.2.2.2.2.2.2.2.2.2.2.2), (V23 x183 x184 x185 x186 x187 x188 x189 x190 x191 x192 x193 x194 x195 x196 x197 x198 x199 x200 x201 x202 x203 x204)] (fun (r : Bool) => (Value.bool r)) w26 fun r206 w27 =>
        J23 r206 w27
        )
        (
        J23 false w25
        )
      )
      (
      J23 false w23
      )
  )
  fun l207 w28 =>
  jn (fun J208 => cnd (l207)
    (
    L23 (Addr.mk b2 0 none) w28 fun x210 x211 x212 x213 x214 x215 x216 x217 x218 x219 x220 x221 x222 x223 x224 x225 x226 x227 x228 x229 x230 x231 =>
    callC Try.prog 10 #[(V23 x210 x211 x212 x213 x214 x215 x216 x217 x218 x219 x220 x221 x222 x223 x224 x225 x226 x227 x228 x229 x230 x231)] (fun (r : Int) => (Value.int .i64 r)) w28 fun r232 w29 =>
    J208 (decide (r232 = 0)) w29
    )
    (
    J208 false w28
    ))
  fun c233 w30 =>
  jn (fun J234 => cnd (c233)
    (
    L23 (Addr.mk b5 0 none) w30 fun x236 x237 x238 x239 x240 x241 x242 x243 x244 x245 x246 x247 x248 x249 x250 x251 x252 x253 x254 x255 x256 x257 =>
    callC Try.prog 10 #[(V23 x236 x237 x238 x239 x240 x241 x242 x243 x244 x245 x246 x247 x248 x249 x250 x251 x252 x253 x254 x255 x256 x257)] (fun (r : Int) => (Value.int .i64 r)) w30 fun r258 w31 =>
    J234 (decide (r258 = 0)) w31
    )
    (
    J234 false w30
    ))
  fun c259 w32 =>
  jn (fun J260 => cnd (c259)
    (
    L23 (Addr.mk b14 0 none) w32 fun x262 x263 x264 x265 x266 x267 x268 x269 x270 x271 x272 x273 x274 x275 x276 x277 x278 x279 x280 x281 x282 x283 =>
    callC Try.prog 10 #[(V23 x262 x263 x264 x265 x266 x267 x268 x269 x270 x271 x272 x273 x274 x275 x276 x277 x278 x279 x280 x281 x282 x283)] (fun (r : Int) => (Value.int .i64 r)) w32 fun r284 w33 =>
    J260 (decide (r284 = 3)) w33
    )
    (
    J260 false w32
    ))
  fun c285 w34 =>
  jn (fun J286 => cnd (c285)
    (
    L23 (Addr.mk b18 0 none) w34 fun x288 x289 x290 x291 x292 x293 x294 x295 x296 x297 x298 x299 x300 x301 x302 x303 x304 x305 x306 x307 x308 x309 =>
    callC Try.prog 10 #[(V23 x288 x289 x290 x291 x292 x293 x294 x295 x296 x297 x298 x299 x300 x301 x302 x303 x304 x305 x306 x307 x308 x309)] (fun (r : Int) => (Value.int .i64 r)) w34 fun r310 w35 =>
    J286 (decide (r310 = 3)) w35
    )
    (
    J286 false w34
    ))
  fun c311 w36 =>
  jn (fun J312 => cnd (c311)
    (
    L23 (Addr.mk b8 0 none) w36 fun x314 x315 x316 x317 x318 x319 x320 x321 x322 x323 x324 x325 x326 x327 x328 x329 x330 x331 x332 x333 x334 x335 =>
    L23 (Addr.mk b2 0 none) w36 fun x336 x337 x338 x339 x340 x341 x342 x343 x344 x345 x346 x347 x348 x349 x350 x351 x352 x353 x354 x355 x356 x357 =>
    callC Try.prog 12 #[(V23 x314 x315 x316 x317 x318 x319 x320 x321 x322 x323 x324 x325 x326 x327 x328 x329 x330 x331 x332 x333 x334 x335), (V23 x336 x337 x338 x339 x340 x341 x342 x343 x344 x345 x346 x347 x348 x349 x350 x351 x352 x353 x354 x355 x356 x357)] (fun (r : Bool) => (Value.bool r)) w36 fun r358 w37 =>
    J312 r358 w37
    )
    (
    J312 false w36
    ))
  fun c359 w38 =>
  jn (fun J360 => cnd (c359)
    (
    L23 (Addr.mk b5 0 none) w38 fun x362 x363 x364 x365 x366 x367 x368 x369 x370 x371 x372 x373 x374 x375 x376 x377 x378 x379 x380 x381 x382 x383 =>
    L23 (Addr.mk b11 0 none) w38 fun x384 x385 x386 x387 x388 x389 x390 x391 x392 x393 x394 x395 x396 x397 x398 x399 x400 x401 x402 x403 x404 x405 =>
    callC Try.prog 12 #[(V23 x362 x363 x364 x365 x366 x367 x368 x369 x370 x371 x372 x373 x374 x375 x376 x377 x378 x379 x380 x381 x382 x383), (V23 x384 x385 x386 x387 x388 x389 x390 x391 x392 x393 x394 x395 x396 x397 x398 x399 x400 x401 x402 x403 x404 x405)] (fun (r : Bool) => (Value.bool r)) w38 fun r406 w39 =>
    J360 r406 w39
    )
    (
    J360 false w38
    ))
  fun c407 w40 =>
  K c407 w40
set_option maxRecDepth 100000 in
theorem D8  (w0 : World) (K : Bool → World → Prop) (h : F8  w0 K) : callC Try.prog 8 #[] (fun (r : Bool) => (Value.bool r)) w0 K := by
  unfold F8 at h
  refine calls_of_wpC Try.func8 rfl 68 rfl (by simp) ?_
  intro ρ hρ
  clear hρ
  refine wpC_seq ?_
  refine wpC_region ?_
  refine wpR_val (v := (Value.bool false)) (w' := w0) rfl rfl rfl (x_assign (v := (Value.bool false)) rfl rfl) ?_
  refine wpR_nil ?_
  refine wpC_seq ?_
  refine wpC_cut (fun ρ => True) trivial ?_
  rintro ρ -
  refine wpC_region ?_
  refine wpR_enter rfl rfl rfl (x_call (vs := []) rfl rfl mapl_nil Try.func21 NN_21 NB_21) (Calls.mono h ?_)
  rintro _ w1 ⟨r1, rfl, h⟩
  refine ⟨_, rfl, ?_⟩
  obtain ⟨b2, hb2⟩ : ∃ u, u = w1.heap.size := ⟨_, rfl⟩
  obtain ⟨w2, hw2⟩ : ∃ u, u = w1.alloc (.cells (A23 (ByteArray.mk #[]) 0 0 0 false 0 false false 0 0 0 0 Sl.nil 0 0 0 0 false 0 0 0 0) 24) := ⟨_, rfl⟩
  replace h := h b2 w2 hb2 hw2
  refine wpR_val (v := (Value.pointer (some (Addr.mk b2 0 none)))) (w' := w2) rfl rfl rfl ((x_alloc rfl ZV_24).trans (by rw [hb2, hw2]; rfl)) ?_
  obtain ⟨q3, h⟩ := h
  obtain ⟨w3, hw3⟩ : ∃ u, u = setAll w2 (Addr.mk b2 0 none) (S23 r1.1 r1.2.1 r1.2.2.1 r1.2.2.2.1 r1.2.2.2.2.1 r1.2.2.2.2.2.1 r1.2.2.2.2.2.2.1 r1.2.2.2.2.2.2.2.1 r1.2.2.2.2.2.2.2.2.1 r1.2.2.2.2.2.2.2.2.2.1 r1.2.2.2.2.2.2.2.2.2.2.1 r1.2.2.2.2.2.2.2.2.2.2.2.1 r1.2.2.2.2.2.2.2.2.2.2.2.2.1 r1.2.2.2.2.2.2.2.2.2.2.2.2.2.1 r1.2.2.2.2.2.2.2.2.2.2.2.2.2.2.1 r1.2.2.2.2.2.2.2.2.2.2.2.2.2.2.2.1 r1.2.2.2.2.2.2.2.2.2.2.2.2.2.2.2.2.1 r1.2.2.2.2.2.2.2.2.2.2.2.2.2.2.2.2.2.1 r1.2.2.2.2.2.2.2.2.2.2.2.2.2.2.2.2.2.2.1 r1.2.2.2.2.2.2.2.2.2.2.2.2.2.2.2.2.2.2.2.1 r1.2.2.2.2.2.2.2.2.2.2.2.2.2.2.2.2.2.2.2.2.1 r1.2.2.2.2.2.2.2.2.2.2.2.2.2.2.2.2.2.2.2.2.2) 0 := ⟨_, rfl⟩
  replace h := h w3 hw3
  refine wpR_skp (w' := w3) rfl rfl ((x_store (v := (V23 r1.1 r1.2.1 r1.2.2.1 r1.2.2.2.1 r1.2.2.2.2.1 r1.2.2.2.2.2.1 r1.2.2.2.2.2.2.1 r1.2.2.2.2.2.2.2.1 r1.2.2.2.2.2.2.2.2.1 r1.2.2.2.2.2.2.2.2.2.1 r1.2.2.2.2.2.2.2.2.2.2.1 r1.2.2.2.2.2.2.2.2.2.2.2.1 r1.2.2.2.2.2.2.2.2.2.2.2.2.1 r1.2.2.2.2.2.2.2.2.2.2.2.2.2.1 r1.2.2.2.2.2.2.2.2.2.2.2.2.2.2.1 r1.2.2.2.2.2.2.2.2.2.2.2.2.2.2.2.1 r1.2.2.2.2.2.2.2.2.2.2.2.2.2.2.2.2.1 r1.2.2.2.2.2.2.2.2.2.2.2.2.2.2.2.2.2.1 r1.2.2.2.2.2.2.2.2.2.2.2.2.2.2.2.2.2.2.1 r1.2.2.2.2.2.2.2.2.2.2.2.2.2.2.2.2.2.2.2.1 r1.2.2.2.2.2.2.2.2.2.2.2.2.2.2.2.2.2.2.2.2.1 r1.2.2.2.2.2.2.2.2.2.2.2.2.2.2.2.2.2.2.2.2.2)) rfl rfl rfl SZ_24 (ones (by rfl)) q3).trans (by rw [hw3]; rfl)) ?_
  refine wpR_nil ?_
  refine wpC_seq ?_
  refine wpC_cut (fun ρ => ρ 1 = (Value.pointer (some (Addr.mk b2 0 none))) ∧ True) ⟨rfl, trivial⟩ ?_
  rintro ρ ⟨e1, -⟩
  refine wpC_region ?_
  refine wpR_enter rfl rfl rfl (x_call (vs := []) rfl rfl mapl_nil Try.func22 NN_22 NB_22) (Calls.mono h ?_)
  rintro _ w4 ⟨r4, rfl, h⟩
  refine ⟨_, rfl, ?_⟩
  obtain ⟨b5, hb5⟩ : ∃ u, u = w4.heap.size := ⟨_, rfl⟩
  obtain ⟨w5, hw5⟩ : ∃ u, u = w4.alloc (.cells (A23 (ByteArray.mk #[]) 0 0 0 false 0 false false 0 0 0 0 Sl.nil 0 0 0 0 false 0 0 0 0) 24) := ⟨_, rfl⟩
  replace h := h b5 w5 hb5 hw5
  refine wpR_val (v := (Value.pointer (some (Addr.mk b5 0 none)))) (w' := w5) rfl rfl rfl ((x_alloc rfl ZV_24).trans (by rw [hb5, hw5]; rfl)) ?_
  obtain ⟨q6, h⟩ := h
  obtain ⟨w6, hw6⟩ : ∃ u, u = setAll w5 (Addr.mk b5 0 none) (S23 r4.1 r4.2.1 r4.2.2.1 r4.2.2.2.1 r4.2.2.2.2.1 r4.2.2.2.2.2.1 r4.2.2.2.2.2.2.1 r4.2.2.2.2.2.2.2.1 r4.2.2.2.2.2.2.2.2.1 r4.2.2.2.2.2.2.2.2.2.1 r4.2.2.2.2.2.2.2.2.2.2.1 r4.2.2.2.2.2.2.2.2.2.2.2.1 r4.2.2.2.2.2.2.2.2.2.2.2.2.1 r4.2.2.2.2.2.2.2.2.2.2.2.2.2.1 r4.2.2.2.2.2.2.2.2.2.2.2.2.2.2.1 r4.2.2.2.2.2.2.2.2.2.2.2.2.2.2.2.1 r4.2.2.2.2.2.2.2.2.2.2.2.2.2.2.2.2.1 r4.2.2.2.2.2.2.2.2.2.2.2.2.2.2.2.2.2.1 r4.2.2.2.2.2.2.2.2.2.2.2.2.2.2.2.2.2.2.1 r4.2.2.2.2.2.2.2.2.2.2.2.2.2.2.2.2.2.2.2.1 r4.2.2.2.2.2.2.2.2.2.2.2.2.2.2.2.2.2.2.2.2.1 r4.2.2.2.2.2.2.2.2.2.2.2.2.2.2.2.2.2.2.2.2.2) 0 := ⟨_, rfl⟩
  replace h := h w6 hw6
  refine wpR_skp (w' := w6) rfl rfl ((x_store (v := (V23 r4.1 r4.2.1 r4.2.2.1 r4.2.2.2.1 r4.2.2.2.2.1 r4.2.2.2.2.2.1 r4.2.2.2.2.2.2.1 r4.2.2.2.2.2.2.2.1 r4.2.2.2.2.2.2.2.2.1 r4.2.2.2.2.2.2.2.2.2.1 r4.2.2.2.2.2.2.2.2.2.2.1 r4.2.2.2.2.2.2.2.2.2.2.2.1 r4.2.2.2.2.2.2.2.2.2.2.2.2.1 r4.2.2.2.2.2.2.2.2.2.2.2.2.2.1 r4.2.2.2.2.2.2.2.2.2.2.2.2.2.2.1 r4.2.2.2.2.2.2.2.2.2.2.2.2.2.2.2.1 r4.2.2.2.2.2.2.2.2.2.2.2.2.2.2.2.2.1 r4.2.2.2.2.2.2.2.2.2.2.2.2.2.2.2.2.2.1 r4.2.2.2.2.2.2.2.2.2.2.2.2.2.2.2.2.2.2.1 r4.2.2.2.2.2.2.2.2.2.2.2.2.2.2.2.2.2.2.2.1 r4.2.2.2.2.2.2.2.2.2.2.2.2.2.2.2.2.2.2.2.2.1 r4.2.2.2.2.2.2.2.2.2.2.2.2.2.2.2.2.2.2.2.2.2)) rfl rfl rfl SZ_24 (ones (by rfl)) q6).trans (by rw [hw6]; rfl)) ?_
  refine wpR_nil ?_
  refine wpC_seq ?_
  refine wpC_cut (fun ρ => ρ 1 = (Value.pointer (some (Addr.mk b2 0 none))) ∧ ρ 2 = (Value.pointer (some (Addr.mk b5 0 none))) ∧ True) ⟨e1, rfl, trivial⟩ ?_
  rintro ρ ⟨e1, e2, -⟩
  refine wpC_region ?_
  obtain ⟨b7, hb7⟩ : ∃ u, u = w6.heap.size := ⟨_, rfl⟩
  obtain ⟨w7, hw7⟩ : ∃ u, u = w6.alloc (.cells #[(Value.string (ByteArray.mk #[116, 120, 116]))] 9) := ⟨_, rfl⟩
  replace h := h b7 w7 hb7 hw7
  refine wpR_val (v := (Sl.v (⟨some ⟨b7, 0, none⟩, 1, 1⟩ : Sl))) (w' := w7) rfl rfl rfl ((x_buildSlice (qs := [(0, (Value.string (ByteArray.mk #[116, 120, 116])))]) rfl (by rfl) (BS_22_1_0 (ByteArray.mk #[116, 120, 116]))).trans (by rw [← hb7, ← hw7])) ?_
  refine wpR_val (v := (V23 (ByteArray.mk #[112]) 2 5 1 false 0 false false 100 1 1 500 (⟨some ⟨b7, 0, none⟩, 1, 1⟩ : Sl) 0 0 0 0 false 1 0 1 0)) (w' := w7) rfl rfl rfl (x_build (qs := [(0, (Value.string (ByteArray.mk #[112]))), (1, (Value.int .i64 2)), (2, (Value.int .i64 5)), (3, (Value.int .i64 1)), (8, (Value.int .i64 100)), (9, (Value.int .i64 1)), (10, (Value.int .i64 1)), (11, (Value.int .i64 500)), (12, (Sl.v (⟨some ⟨b7, 0, none⟩, 1, 1⟩ : Sl))), (18, (Value.int .i64 1)), (20, (Value.int .i64 1))]) rfl (by rfl) (BD_24_0_1_2_3_8_9_10_11_12_18_20 (ByteArray.mk #[112]) 2 5 1 100 1 1 500 (⟨some ⟨b7, 0, none⟩, 1, 1⟩ : Sl) 1 1 _)) ?_
  obtain ⟨b8, hb8⟩ : ∃ u, u = w7.heap.size := ⟨_, rfl⟩
  obtain ⟨w8, hw8⟩ : ∃ u, u = w7.alloc (.cells (A23 (ByteArray.mk #[]) 0 0 0 false 0 false false 0 0 0 0 Sl.nil 0 0 0 0 false 0 0 0 0) 24) := ⟨_, rfl⟩
  replace h := h b8 w8 hb8 hw8
  refine wpR_val (v := (Value.pointer (some (Addr.mk b8 0 none)))) (w' := w8) rfl rfl rfl ((x_alloc rfl ZV_24).trans (by rw [hb8, hw8]; rfl)) ?_
  obtain ⟨q9, h⟩ := h
  obtain ⟨w9, hw9⟩ : ∃ u, u = setAll w8 (Addr.mk b8 0 none) (S23 (ByteArray.mk #[112]) 2 5 1 false 0 false false 100 1 1 500 (⟨some ⟨b7, 0, none⟩, 1, 1⟩ : Sl) 0 0 0 0 false 1 0 1 0) 0 := ⟨_, rfl⟩
  replace h := h w9 hw9
  refine wpR_skp (w' := w9) rfl rfl ((x_store (v := (V23 (ByteArray.mk #[112]) 2 5 1 false 0 false false 100 1 1 500 (⟨some ⟨b7, 0, none⟩, 1, 1⟩ : Sl) 0 0 0 0 false 1 0 1 0)) rfl rfl rfl SZ_24 (ones (by rfl)) q9).trans (by rw [hw9]; rfl)) ?_
  refine wpR_nil ?_
  refine wpC_seq ?_
  refine wpC_cut (fun ρ => ρ 1 = (Value.pointer (some (Addr.mk b2 0 none))) ∧ ρ 2 = (Value.pointer (some (Addr.mk b5 0 none))) ∧ ρ 3 = (Value.pointer (some (Addr.mk b8 0 none))) ∧ True) ⟨e1, e2, rfl, trivial⟩ ?_
  rintro ρ ⟨e1, e2, e3, -⟩
  refine wpC_region ?_
  obtain ⟨b10, hb10⟩ : ∃ u, u = w9.heap.size := ⟨_, rfl⟩
  obtain ⟨w10, hw10⟩ : ∃ u, u = w9.alloc (.cells #[(Value.string (ByteArray.mk #[112, 110, 103])), (Value.string (ByteArray.mk #[116, 120, 116])), (Value.string (ByteArray.mk #[106, 112, 103]))] 9) := ⟨_, rfl⟩
  replace h := h b10 w10 hb10 hw10
  refine wpR_val (v := (Sl.v (⟨some ⟨b10, 0, none⟩, 3, 3⟩ : Sl))) (w' := w10) rfl rfl rfl ((x_buildSlice (qs := [(0, (Value.string (ByteArray.mk #[112, 110, 103]))), (1, (Value.string (ByteArray.mk #[116, 120, 116]))), (2, (Value.string (ByteArray.mk #[106, 112, 103])))]) rfl (by rfl) (BS_22_3_0_1_2 (ByteArray.mk #[112, 110, 103]) (ByteArray.mk #[116, 120, 116]) (ByteArray.mk #[106, 112, 103]))).trans (by rw [← hb10, ← hw10])) ?_
  refine wpR_val (v := (V23 (ByteArray.mk #[112]) 2 0 2 false 1 false false 200 3 2 1000 (⟨some ⟨b10, 0, none⟩, 3, 3⟩ : Sl) 0 0 0 0 false 1 0 1 0)) (w' := w10) rfl rfl rfl (x_build (qs := [(0, (Value.string (ByteArray.mk #[112]))), (1, (Value.int .i64 2)), (3, (Value.int .i64 2)), (5, (Value.int .i64 1)), (8, (Value.int .i64 200)), (9, (Value.int .i64 3)), (10, (Value.int .i64 2)), (11, (Value.int .i64 1000)), (12, (Sl.v (⟨some ⟨b10, 0, none⟩, 3, 3⟩ : Sl))), (18, (Value.int .i64 1)), (20, (Value.int .i64 1))]) rfl (by rfl) (BD_24_0_1_3_5_8_9_10_11_12_18_20 (ByteArray.mk #[112]) 2 2 1 200 3 2 1000 (⟨some ⟨b10, 0, none⟩, 3, 3⟩ : Sl) 1 1 _)) ?_
  obtain ⟨b11, hb11⟩ : ∃ u, u = w10.heap.size := ⟨_, rfl⟩
  obtain ⟨w11, hw11⟩ : ∃ u, u = w10.alloc (.cells (A23 (ByteArray.mk #[]) 0 0 0 false 0 false false 0 0 0 0 Sl.nil 0 0 0 0 false 0 0 0 0) 24) := ⟨_, rfl⟩
  replace h := h b11 w11 hb11 hw11
  refine wpR_val (v := (Value.pointer (some (Addr.mk b11 0 none)))) (w' := w11) rfl rfl rfl ((x_alloc rfl ZV_24).trans (by rw [hb11, hw11]; rfl)) ?_
  obtain ⟨q12, h⟩ := h
  obtain ⟨w12, hw12⟩ : ∃ u, u = setAll w11 (Addr.mk b11 0 none) (S23 (ByteArray.mk #[112]) 2 0 2 false 1 false false 200 3 2 1000 (⟨some ⟨b10, 0, none⟩, 3, 3⟩ : Sl) 0 0 0 0 false 1 0 1 0) 0 := ⟨_, rfl⟩
  replace h := h w12 hw12
  refine wpR_skp (w' := w12) rfl rfl ((x_store (v := (V23 (ByteArray.mk #[112]) 2 0 2 false 1 false false 200 3 2 1000 (⟨some ⟨b10, 0, none⟩, 3, 3⟩ : Sl) 0 0 0 0 false 1 0 1 0)) rfl rfl rfl SZ_24 (ones (by rfl)) q12).trans (by rw [hw12]; rfl)) ?_
  refine wpR_nil ?_
  refine wpC_seq ?_
  refine wpC_cut (fun ρ => ρ 1 = (Value.pointer (some (Addr.mk b2 0 none))) ∧ ρ 2 = (Value.pointer (some (Addr.mk b5 0 none))) ∧ ρ 3 = (Value.pointer (some (Addr.mk b8 0 none))) ∧ ρ 4 = (Value.pointer (some (Addr.mk b11 0 none))) ∧ True) ⟨e1, e2, e3, rfl, trivial⟩ ?_
  rintro ρ ⟨e1, e2, e3, e4, -⟩
  refine wpC_region ?_
  refine wpR_enter rfl rfl rfl (x_call (vs := []) rfl rfl mapl_nil Try.func21 NN_21 NB_21) (Calls.mono h ?_)
  rintro _ w13 ⟨r13, rfl, h⟩
  refine ⟨_, rfl, ?_⟩
  obtain ⟨b14, hb14⟩ : ∃ u, u = w13.heap.size := ⟨_, rfl⟩
  obtain ⟨w14, hw14⟩ : ∃ u, u = w13.alloc (.cells (A23 (ByteArray.mk #[]) 0 0 0 false 0 false false 0 0 0 0 Sl.nil 0 0 0 0 false 0 0 0 0) 24) := ⟨_, rfl⟩
  replace h := h b14 w14 hb14 hw14
  refine wpR_val (v := (Value.pointer (some (Addr.mk b14 0 none)))) (w' := w14) rfl rfl rfl ((x_alloc rfl ZV_24).trans (by rw [hb14, hw14]; rfl)) ?_
  obtain ⟨q15, h⟩ := h
  obtain ⟨w15, hw15⟩ : ∃ u, u = setAll w14 (Addr.mk b14 0 none) (S23 r13.1 r13.2.1 r13.2.2.1 r13.2.2.2.1 r13.2.2.2.2.1 r13.2.2.2.2.2.1 r13.2.2.2.2.2.2.1 r13.2.2.2.2.2.2.2.1 r13.2.2.2.2.2.2.2.2.1 r13.2.2.2.2.2.2.2.2.2.1 r13.2.2.2.2.2.2.2.2.2.2.1 r13.2.2.2.2.2.2.2.2.2.2.2.1 r13.2.2.2.2.2.2.2.2.2.2.2.2.1 r13.2.2.2.2.2.2.2.2.2.2.2.2.2.1 r13.2.2.2.2.2.2.2.2.2.2.2.2.2.2.1 r13.2.2.2.2.2.2.2.2.2.2.2.2.2.2.2.1 r13.2.2.2.2.2.2.2.2.2.2.2.2.2.2.2.2.1 r13.2.2.2.2.2.2.2.2.2.2.2.2.2.2.2.2.2.1 r13.2.2.2.2.2.2.2.2.2.2.2.2.2.2.2.2.2.2.1 r13.2.2.2.2.2.2.2.2.2.2.2.2.2.2.2.2.2.2.2.1 r13.2.2.2.2.2.2.2.2.2.2.2.2.2.2.2.2.2.2.2.2.1 r13.2.2.2.2.2.2.2.2.2.2.2.2.2.2.2.2.2.2.2.2.2) 0 := ⟨_, rfl⟩
  replace h := h w15 hw15
  refine wpR_skp (w' := w15) rfl rfl ((x_store (v := (V23 r13.1 r13.2.1 r13.2.2.1 r13.2.2.2.1 r13.2.2.2.2.1 r13.2.2.2.2.2.1 r13.2.2.2.2.2.2.1 r13.2.2.2.2.2.2.2.1 r13.2.2.2.2.2.2.2.2.1 r13.2.2.2.2.2.2.2.2.2.1 r13.2.2.2.2.2.2.2.2.2.2.1 r13.2.2.2.2.2.2.2.2.2.2.2.1 r13.2.2.2.2.2.2.2.2.2.2.2.2.1 r13.2.2.2.2.2.2.2.2.2.2.2.2.2.1 r13.2.2.2.2.2.2.2.2.2.2.2.2.2.2.1 r13.2.2.2.2.2.2.2.2.2.2.2.2.2.2.2.1 r13.2.2.2.2.2.2.2.2.2.2.2.2.2.2.2.2.1 r13.2.2.2.2.2.2.2.2.2.2.2.2.2.2.2.2.2.1 r13.2.2.2.2.2.2.2.2.2.2.2.2.2.2.2.2.2.2.1 r13.2.2.2.2.2.2.2.2.2.2.2.2.2.2.2.2.2.2.2.1 r13.2.2.2.2.2.2.2.2.2.2.2.2.2.2.2.2.2.2.2.2.1 r13.2.2.2.2.2.2.2.2.2.2.2.2.2.2.2.2.2.2.2.2.2)) rfl rfl rfl SZ_24 (ones (by rfl)) q15).trans (by rw [hw15]; rfl)) ?_
  refine wpR_nil ?_
  refine wpC_seq ?_
  refine wpC_cut (fun ρ => ρ 1 = (Value.pointer (some (Addr.mk b2 0 none))) ∧ ρ 2 = (Value.pointer (some (Addr.mk b5 0 none))) ∧ ρ 3 = (Value.pointer (some (Addr.mk b8 0 none))) ∧ ρ 4 = (Value.pointer (some (Addr.mk b11 0 none))) ∧ ρ 5 = (Value.pointer (some (Addr.mk b14 0 none))) ∧ True) ⟨e1, e2, e3, e4, rfl, trivial⟩ ?_
  rintro ρ ⟨e1, e2, e3, e4, e5, -⟩
  refine wpC_region ?_
  refine wpR_val (v := (Value.pointer (some ((Addr.mk b14 0 none).add 8)))) (w' := w15) rfl rfl rfl (x_fieldAddr rfl e5 FA_24_8) ?_
  obtain ⟨q16, h⟩ := h
  obtain ⟨w16, hw16⟩ : ∃ u, u = setAll w15 ((Addr.mk b14 0 none).add 8) [(Value.int .i64 39)] 0 := ⟨_, rfl⟩
  replace h := h w16 hw16
  refine wpR_skp (w' := w16) rfl rfl ((x_store (v := (Value.int .i64 39)) rfl rfl rfl SZ_3 (ones (by rfl)) q16).trans (by rw [hw16]; rfl)) ?_
  refine wpR_nil ?_
  refine wpC_seq ?_
  refine wpC_cut (fun ρ => ρ 1 = (Value.pointer (some (Addr.mk b2 0 none))) ∧ ρ 2 = (Value.pointer (some (Addr.mk b5 0 none))) ∧ ρ 3 = (Value.pointer (some (Addr.mk b8 0 none))) ∧ ρ 4 = (Value.pointer (some (Addr.mk b11 0 none))) ∧ ρ 5 = (Value.pointer (some (Addr.mk b14 0 none))) ∧ True) ⟨e1, e2, e3, e4, e5, trivial⟩ ?_
  rintro ρ ⟨e1, e2, e3, e4, e5, -⟩
  refine wpC_region ?_
  refine wpR_enter rfl rfl rfl (x_call (vs := []) rfl rfl mapl_nil Try.func21 NN_21 NB_21) (Calls.mono h ?_)
  rintro _ w17 ⟨r17, rfl, h⟩
  refine ⟨_, rfl, ?_⟩
  obtain ⟨b18, hb18⟩ : ∃ u, u = w17.heap.size := ⟨_, rfl⟩
  obtain ⟨w18, hw18⟩ : ∃ u, u = w17.alloc (.cells (A23 (ByteArray.mk #[]) 0 0 0 false 0 false false 0 0 0 0 Sl.nil 0 0 0 0 false 0 0 0 0) 24) := ⟨_, rfl⟩
  replace h := h b18 w18 hb18 hw18
  refine wpR_val (v := (Value.pointer (some (Addr.mk b18 0 none)))) (w' := w18) rfl rfl rfl ((x_alloc rfl ZV_24).trans (by rw [hb18, hw18]; rfl)) ?_
  obtain ⟨q19, h⟩ := h
  obtain ⟨w19, hw19⟩ : ∃ u, u = setAll w18 (Addr.mk b18 0 none) (S23 r17.1 r17.2.1 r17.2.2.1 r17.2.2.2.1 r17.2.2.2.2.1 r17.2.2.2.2.2.1 r17.2.2.2.2.2.2.1 r17.2.2.2.2.2.2.2.1 r17.2.2.2.2.2.2.2.2.1 r17.2.2.2.2.2.2.2.2.2.1 r17.2.2.2.2.2.2.2.2.2.2.1 r17.2.2.2.2.2.2.2.2.2.2.2.1 r17.2.2.2.2.2.2.2.2.2.2.2.2.1 r17.2.2.2.2.2.2.2.2.2.2.2.2.2.1 r17.2.2.2.2.2.2.2.2.2.2.2.2.2.2.1 r17.2.2.2.2.2.2.2.2.2.2.2.2.2.2.2.1 r17.2.2.2.2.2.2.2.2.2.2.2.2.2.2.2.2.1 r17.2.2.2.2.2.2.2.2.2.2.2.2.2.2.2.2.2.1 r17.2.2.2.2.2.2.2.2.2.2.2.2.2.2.2.2.2.2.1 r17.2.2.2.2.2.2.2.2.2.2.2.2.2.2.2.2.2.2.2.1 r17.2.2.2.2.2.2.2.2.2.2.2.2.2.2.2.2.2.2.2.2.1 r17.2.2.2.2.2.2.2.2.2.2.2.2.2.2.2.2.2.2.2.2.2) 0 := ⟨_, rfl⟩
  replace h := h w19 hw19
  refine wpR_skp (w' := w19) rfl rfl ((x_store (v := (V23 r17.1 r17.2.1 r17.2.2.1 r17.2.2.2.1 r17.2.2.2.2.1 r17.2.2.2.2.2.1 r17.2.2.2.2.2.2.1 r17.2.2.2.2.2.2.2.1 r17.2.2.2.2.2.2.2.2.1 r17.2.2.2.2.2.2.2.2.2.1 r17.2.2.2.2.2.2.2.2.2.2.1 r17.2.2.2.2.2.2.2.2.2.2.2.1 r17.2.2.2.2.2.2.2.2.2.2.2.2.1 r17.2.2.2.2.2.2.2.2.2.2.2.2.2.1 r17.2.2.2.2.2.2.2.2.2.2.2.2.2.2.1 r17.2.2.2.2.2.2.2.2.2.2.2.2.2.2.2.1 r17.2.2.2.2.2.2.2.2.2.2.2.2.2.2.2.2.1 r17.2.2.2.2.2.2.2.2.2.2.2.2.2.2.2.2.2.1 r17.2.2.2.2.2.2.2.2.2.2.2.2.2.2.2.2.2.2.1 r17.2.2.2.2.2.2.2.2.2.2.2.2.2.2.2.2.2.2.2.1 r17.2.2.2.2.2.2.2.2.2.2.2.2.2.2.2.2.2.2.2.2.1 r17.2.2.2.2.2.2.2.2.2.2.2.2.2.2.2.2.2.2.2.2.2)) rfl rfl rfl SZ_24 (ones (by rfl)) q19).trans (by rw [hw19]; rfl)) ?_
  refine wpR_nil ?_
  refine wpC_seq ?_
  refine wpC_cut (fun ρ => ρ 1 = (Value.pointer (some (Addr.mk b2 0 none))) ∧ ρ 2 = (Value.pointer (some (Addr.mk b5 0 none))) ∧ ρ 3 = (Value.pointer (some (Addr.mk b8 0 none))) ∧ ρ 4 = (Value.pointer (some (Addr.mk b11 0 none))) ∧ ρ 5 = (Value.pointer (some (Addr.mk b14 0 none))) ∧ ρ 6 = (Value.pointer (some (Addr.mk b18 0 none))) ∧ True) ⟨e1, e2, e3, e4, e5, rfl, trivial⟩ ?_
  rintro ρ ⟨e1, e2, e3, e4, e5, e6, -⟩
  refine wpC_region ?_
  refine wpR_val (v := (Value.pointer (some ((Addr.mk b18 0 none).add 19)))) (w' := w19) rfl rfl rfl (x_fieldAddr rfl e6 FA_24_19) ?_
  obtain ⟨q20, h⟩ := h
  obtain ⟨w20, hw20⟩ : ∃ u, u = setAll w19 ((Addr.mk b18 0 none).add 19) [(Value.int .i64 5)] 0 := ⟨_, rfl⟩
  replace h := h w20 hw20
  refine wpR_skp (w' := w20) rfl rfl ((x_store (v := (Value.int .i64 5)) rfl rfl rfl SZ_3 (ones (by rfl)) q20).trans (by rw [hw20]; rfl)) ?_
  refine wpR_nil ?_
  refine wpC_seq ?_
  refine wpC_cut (fun ρ => ρ 1 = (Value.pointer (some (Addr.mk b2 0 none))) ∧ ρ 2 = (Value.pointer (some (Addr.mk b5 0 none))) ∧ ρ 3 = (Value.pointer (some (Addr.mk b8 0 none))) ∧ ρ 4 = (Value.pointer (some (Addr.mk b11 0 none))) ∧ ρ 5 = (Value.pointer (some (Addr.mk b14 0 none))) ∧ ρ 6 = (Value.pointer (some (Addr.mk b18 0 none))) ∧ True) ⟨e1, e2, e3, e4, e5, e6, trivial⟩ ?_
  rintro ρ ⟨e1, e2, e3, e4, e5, e6, -⟩
  refine wpC_region ?_
  refine wpR_val (v := (Value.pointer (some ((Addr.mk b18 0 none).add 20)))) (w' := w20) rfl rfl rfl (x_fieldAddr rfl e6 FA_24_20) ?_
  obtain ⟨q21, h⟩ := h
  obtain ⟨w21, hw21⟩ : ∃ u, u = setAll w20 ((Addr.mk b18 0 none).add 20) [(Value.int .i64 5)] 0 := ⟨_, rfl⟩
  replace h := h w21 hw21
  refine wpR_skp (w' := w21) rfl rfl ((x_store (v := (Value.int .i64 5)) rfl rfl rfl SZ_3 (ones (by rfl)) q21).trans (by rw [hw21]; rfl)) ?_
  refine wpR_nil ?_
  refine wpC_seq ?_
  refine wpC_cut (fun ρ => ρ 1 = (Value.pointer (some (Addr.mk b2 0 none))) ∧ ρ 2 = (Value.pointer (some (Addr.mk b5 0 none))) ∧ ρ 3 = (Value.pointer (some (Addr.mk b8 0 none))) ∧ ρ 4 = (Value.pointer (some (Addr.mk b11 0 none))) ∧ ρ 5 = (Value.pointer (some (Addr.mk b14 0 none))) ∧ ρ 6 = (Value.pointer (some (Addr.mk b18 0 none))) ∧ True) ⟨e1, e2, e3, e4, e5, e6, trivial⟩ ?_
  rintro ρ ⟨e1, e2, e3, e4, e5, e6, -⟩
  obtain ⟨J23, h, hk⟩ := h
  refine wpC_drawJ (by kernel_rfl) (fun (x : Bool) ρ => ρ 7 = (Value.bool x) ∧ ρ 1 = (Value.pointer (some (Addr.mk b2 0 none))) ∧ ρ 2 = (Value.pointer (some (Addr.mk b5 0 none))) ∧ ρ 3 = (Value.pointer (some (Addr.mk b8 0 none))) ∧ ρ 4 = (Value.pointer (some (Addr.mk b11 0 none))) ∧ ρ 5 = (Value.pointer (some (Addr.mk b14 0 none))) ∧ ρ 6 = (Value.pointer (some (Addr.mk b18 0 none))) ∧ True) J23 ?_ ?_
  · clear hk
    unfold tk at h
    generalize w21.drew = w22 at h ⊢
    obtain ⟨x24, q24, x25, q25, x26, q26, x27, q27, x28, q28, x29, q29, x30, q30, x31, q31, x32, q32, x33, q33, x34, q34, x35, q35, x36, q36, x37, q37, x38, q38, x39, q39, x40, q40, x41, q41, x42, q42, x43, q43, x44, q44, x45, q45, h⟩ := h
    refine wpD_take (v := (V23 x24 x25 x26 x27 x28 x29 x30 x31 x32 x33 x34 x35 x36 x37 x38 x39 x40 x41 x42 x43 x44 x45)) 0 (fun w => C23 (Addr.mk b2 0 none) x24 x25 x26 x27 x28 x29 x30 x31 x32 x33 x34 x35 x36 x37 x38 x39 x40 x41 x42 x43 x44 x45 w) rfl (by kernel_rfl) (by kernel_rfl) (by kernel_rfl) rfl rfl rfl ⟨q24, q25, q26, q27, q28, q29, q30, q31, q32, q33, q34, q35, q36, q37, q38, q39, q40, q41, q42, q43, q44, q45⟩ (fun w q => (x_loadN (S23 x24 x25 x26 x27 x28 x29 x30 x31 x32 x33 x34 x35 x36 x37 x38 x39 x40 x41 x42 x43 x44 x45) rfl e1 SH_24 (K23 q))) ?_
    obtain ⟨x46, q46, x47, q47, x48, q48, x49, q49, x50, q50, x51, q51, x52, q52, x53, q53, x54, q54, x55, q55, x56, q56, x57, q57, x58, q58, x59, q59, x60, q60, x61, q61, x62, q62, x63, q63, x64, q64, x65, q65, x66, q66, x67, q67, h⟩ := h
    refine wpD_take (v := (V23 x46 x47 x48 x49 x50 x51 x52 x53 x54 x55 x56 x57 x58 x59 x60 x61 x62 x63 x64 x65 x66 x67)) 1 (fun w => C23 (Addr.mk b5 0 none) x46 x47 x48 x49 x50 x51 x52 x53 x54 x55 x56 x57 x58 x59 x60 x61 x62 x63 x64 x65 x66 x67 w) rfl (by kernel_rfl) (by kernel_rfl) (by kernel_rfl) rfl rfl rfl ⟨q46, q47, q48, q49, q50, q51, q52, q53, q54, q55, q56, q57, q58, q59, q60, q61, q62, q63, q64, q65, q66, q67⟩ (fun w q => (x_loadN (S23 x46 x47 x48 x49 x50 x51 x52 x53 x54 x55 x56 x57 x58 x59 x60 x61 x62 x63 x64 x65 x66 x67) rfl e2 SH_24 (K23 q))) ?_
    refine wpD_all (rs := [2]) (by kernel_rfl) (by simp) (allD_cons ?_ allD_nil)
    refine stepD_enterL (L' := []) rfl rfl rfl rfl (x_call (vs := [(V23 x24 x25 x26 x27 x28 x29 x30 x31 x32 x33 x34 x35 x36 x37 x38 x39 x40 x41 x42 x43 x44 x45), (V23 x46 x47 x48 x49 x50 x51 x52 x53 x54 x55 x56 x57 x58 x59 x60 x61 x62 x63 x64 x65 x66 x67)]) rfl rfl (mapl_cons rfl (mapl_cons rfl mapl_nil)) Try.func12 NN_12 NB_12) (by kernel_rfl) (Calls.mono h ?_)
    rintro _ w23 ⟨r68, rfl, h⟩
    refine ⟨_, rfl, held_nil, ?_⟩
    refine wpD_take (v := (Value.bool (!r68))) 3 (fun _ => True) rfl (by kernel_rfl) (by kernel_rfl) (by kernel_rfl) rfl rfl rfl trivial (fun w _ => (x_not rfl rfl)) ?_
    refine wpD_take (v := (Value.bool (!r68))) 4 (fun _ => True) rfl (by kernel_rfl) (by kernel_rfl) (by kernel_rfl) rfl rfl rfl trivial (fun w _ => (x_move (v := (Value.bool (!r68))) rfl rfl)) ?_
    rcases Bool.eq_false_or_eq_true (!r68) with hc69 | hc69
    · replace h := h.1 hc69
      obtain ⟨x70, q70, x71, q71, x72, q72, x73, q73, x74, q74, x75, q75, x76, q76, x77, q77, x78, q78, x79, q79, x80, q80, x81, q81, x82, q82, x83, q83, x84, q84, x85, q85, x86, q86, x87, q87, x88, q88, x89, q89, x90, q90, x91, q91, h⟩ := h
      refine wpD_take (v := (V23 x70 x71 x72 x73 x74 x75 x76 x77 x78 x79 x80 x81 x82 x83 x84 x85 x86 x87 x88 x89 x90 x91)) 5 (fun w => C23 (Addr.mk b2 0 none) x70 x71 x72 x73 x74 x75 x76 x77 x78 x79 x80 x81 x82 x83 x84 x85 x86 x87 x88 x89 x90 x91 w) rfl (by kernel_rfl) (by kernel_rfl) (by kernel_rfl) (wantG rfl rfl rfl hc69) rfl rfl ⟨q70, q71, q72, q73, q74, q75, q76, q77, q78, q79, q80, q81, q82, q83, q84, q85, q86, q87, q88, q89, q90, q91⟩ (fun w q => (x_loadN (S23 x70 x71 x72 x73 x74 x75 x76 x77 x78 x79 x80 x81 x82 x83 x84 x85 x86 x87 x88 x89 x90 x91) rfl e1 SH_24 (K23 q))) ?_
      obtain ⟨x92, q92, x93, q93, x94, q94, x95, q95, x96, q96, x97, q97, x98, q98, x99, q99, x100, q100, x101, q101, x102, q102, x103, q103, x104, q104, x105, q105, x106, q106, x107, q107, x108, q108, x109, q109, x110, q110, x111, q111, x112, q112, x113, q113, h⟩ := h
      refine wpD_take (v := (V23 x92 x93 x94 x95 x96 x97 x98 x99 x100 x101 x102 x103 x104 x105 x106 x107 x108 x109 x110 x111 x112 x113)) 6 (fun w => C23 (Addr.mk b5 0 none) x92 x93 x94 x95 x96 x97 x98 x99 x100 x101 x102 x103 x104 x105 x106 x107 x108 x109 x110 x111 x112 x113 w) rfl (by kernel_rfl) (by kernel_rfl) (by kernel_rfl) (wantG rfl rfl rfl hc69) rfl rfl ⟨q92, q93, q94, q95, q96, q97, q98, q99, q100, q101, q102, q103, q104, q105, q106, q107, q108, q109, q110, q111, q112, q113⟩ (fun w q => (x_loadN (S23 x92 x93 x94 x95 x96 x97 x98 x99 x100 x101 x102 x103 x104 x105 x106 x107 x108 x109 x110 x111 x112 x113) rfl e2 SH_24 (K23 q))) ?_
      obtain ⟨x114, q114, x115, q115, x116, q116, x117, q117, x118, q118, x119, q119, x120, q120, x121, q121, x122, q122, x123, q123, x124, q124, x125, q125, x126, q126, x127, q127, x128, q128, x129, q129, x130, q130, x131, q131, x132, q132, x133, q133, x134, q134, x135, q135, h⟩ := h
      refine wpD_take (v := (V23 x114 x115 x116 x117 x118 x119 x120 x121 x122 x123 x124 x125 x126 x127 x128 x129 x130 x131 x132 x133 x134 x135)) 8 (fun w => C23 (Addr.mk b8 0 none) x114 x115 x116 x117 x118 x119 x120 x121 x122 x123 x124 x125 x126 x127 x128 x129 x130 x131 x132 x133 x134 x135 w) rfl (by kernel_rfl) (by kernel_rfl) (by kernel_rfl) (wantG rfl rfl rfl hc69) rfl rfl ⟨q114, q115, q116, q117, q118, q119, q120, q121, q122, q123, q124, q125, q126, q127, q128, q129, q130, q131, q132, q133, q134, q135⟩ (fun w q => (x_loadN (S23 x114 x115 x116 x117 x118 x119 x120 x121 x122 x123 x124 x125 x126 x127 x128 x129 x130 x131 x132 x133 x134 x135) rfl e3 SH_24 (K23 q))) ?_
      refine wpD_all (rs := [7]) (by kernel_rfl) (by simp) (allD_cons ?_ allD_nil)
      refine stepD_enterL (L' := [(8, fun w => C23 (Addr.mk b8 0 none) x114 x115 x116 x117 x118 x119 x120 x121 x122 x123 x124 x125 x126 x127 x128 x129 x130 x131 x132 x133 x134 x135 w), (3, fun _ => True)]) rfl (wantG rfl rfl rfl hc69) rfl rfl (x_call (vs := [(V23 x70 x71 x72 x73 x74 x75 x76 x77 x78 x79 x80 x81 x82 x83 x84 x85 x86 x87 x88 x89 x90 x91), (V23 x92 x93 x94 x95 x96 x97 x98 x99 x100 x101 x102 x103 x104 x105 x106 x107 x108 x109 x110 x111 x112 x113)]) rfl rfl (mapl_cons rfl (mapl_cons rfl mapl_nil)) Try.func15 NN_15 NB_15) (by kernel_rfl) (Calls.mono h ?_)
      rintro _ w24 ⟨r136, rfl, h⟩
      obtain ⟨o8, h⟩ := h
      refine ⟨_, rfl, (held_cons o8 (held_cons trivial held_nil)), ?_⟩
      refine wpD_all (rs := [9]) (by kernel_rfl) (by simp) (allD_cons ?_ allD_nil)
      refine stepD_enterL (L' := [(3, fun _ => True)]) rfl (wantG rfl rfl rfl hc69) rfl rfl (x_call (vs := [(V23 r136.1 r136.2.1 r136.2.2.1 r136.2.2.2.1 r136.2.2.2.2.1 r136.2.2.2.2.2.1 r136.2.2.2.2.2.2.1 r136.2.2.2.2.2.2.2.1 r136.2.2.2.2.2.2.2.2.1 r136.2.2.2.2.2.2.2.2.2.1 r136.2.2.2.2.2.2.2.2.2.2.1 r136.2.2.2.2.2.2.2.2.2.2.2.1 r136.2.2.2.2.2.2.2.2.2.2.2.2.1 r136.2.2.2.2.2.2.2.2.2.2.2.2.2.1 r136.2.2.2.2.2.2.2.2.2.2.2.2.2.2.1 r136.2.2.2.2.2.2.2.2.2.2.2.2.2.2.2.1 r136.2.2.2.2.2.2.2.2.2.2.2.2.2.2.2.2.1 r136.2.2.2.2.2.2.2.2.2.2.2.2.2.2.2.2.2.1 r136.2.2.2.2.2.2.2.2.2.2.2.2.2.2.2.2.2.2.1 r136.2.2.2.2.2.2.2.2.2.2.2.2.2.2.2.2.2.2.2.1 r136.2.2.2.2.2.2.2.2.2.2.2.2.2.2.2.2.2.2.2.2.1 r136.2.2.2.2.2.2.2.2.2.2.2.2.2.2.2.2.2.2.2.2.2), (V23 x114 x115 x116 x117 x118 x119 x120 x121 x122 x123 x124 x125 x126 x127 x128 x129 x130 x131 x132 x133 x134 x135)]) rfl rfl (mapl_cons rfl (mapl_cons rfl mapl_nil)) Try.func14 NN_14 NB_14) (by kernel_rfl) (Calls.mono h ?_)
      rintro _ w25 ⟨r137, rfl, h⟩
      refine ⟨_, rfl, (held_cons trivial held_nil), ?_⟩
      refine wpD_take (v := (Value.bool r137)) 10 (fun _ => True) rfl (by kernel_rfl) (by kernel_rfl) (by kernel_rfl) rfl rfl rfl trivial (fun w _ => (x_pickT (v := (Value.bool r137)) rfl rfl hc69 rfl)) ?_
      refine wpD_take (v := (Value.bool r137)) 11 (fun _ => True) rfl (by kernel_rfl) (by kernel_rfl) (by kernel_rfl) rfl rfl rfl trivial (fun w _ => (x_move (v := (Value.bool r137)) rfl rfl)) ?_
      rcases Bool.eq_false_or_eq_true (r137) with hc138 | hc138
      · replace h := h.1 hc138
        obtain ⟨x139, q139, x140, q140, x141, q141, x142, q142, x143, q143, x144, q144, x145, q145, x146, q146, x147, q147, x148, q148, x149, q149, x150, q150, x151, q151, x152, q152, x153, q153, x154, q154, x155, q155, x156, q156, x157, q157, x158, q158, x159, q159, x160, q160, h⟩ := h
        refine wpD_take (v := (V23 x139 x140 x141 x142 x143 x144 x145 x146 x147 x148 x149 x150 x151 x152 x153 x154 x155 x156 x157 x158 x159 x160)) 12 (fun w => C23 (Addr.mk b2 0 none) x139 x140 x141 x142 x143 x144 x145 x146 x147 x148 x149 x150 x151 x152 x153 x154 x155 x156 x157 x158 x159 x160 w) rfl (by kernel_rfl) (by kernel_rfl) (by kernel_rfl) (wantG rfl rfl rfl hc138) rfl rfl ⟨q139, q140, q141, q142, q143, q144, q145, q146, q147, q148, q149, q150, q151, q152, q153, q154, q155, q156, q157, q158, q159, q160⟩ (fun w q => (x_loadN (S23 x139 x140 x141 x142 x143 x144 x145 x146 x147 x148 x149 x150 x151 x152 x153 x154 x155 x156 x157 x158 x159 x160) rfl e1 SH_24 (K23 q))) ?_
        obtain ⟨x161, q161, x162, q162, x163, q163, x164, q164, x165, q165, x166, q166, x167, q167, x168, q168, x169, q169, x170, q170, x171, q171, x172, q172, x173, q173, x174, q174, x175, q175, x176, q176, x177, q177, x178, q178, x179, q179, x180, q180, x181, q181, x182, q182, h⟩ := h
        refine wpD_take (v := (V23 x161 x162 x163 x164 x165 x166 x167 x168 x169 x170 x171 x172 x173 x174 x175 x176 x177 x178 x179 x180 x181 x182)) 13 (fun w => C23 (Addr.mk b5 0 none) x161 x162 x163 x164 x165 x166 x167 x168 x169 x170 x171 x172 x173 x174 x175 x176 x177 x178 x179 x180 x181 x182 w) rfl (by kernel_rfl) (by kernel_rfl) (by kernel_rfl) (wantG rfl rfl rfl hc138) rfl rfl ⟨q161, q162, q163, q164, q165, q166, q167, q168, q169, q170, q171, q172, q173, q174, q175, q176, q177, q178, q179, q180, q181, q182⟩ (fun w q => (x_loadN (S23 x161 x162 x163 x164 x165 x166 x167 x168 x169 x170 x171 x172 x173 x174 x175 x176 x177 x178 x179 x180 x181 x182) rfl e2 SH_24 (K23 q))) ?_
        obtain ⟨x183, q183, x184, q184, x185, q185, x186, q186, x187, q187, x188, q188, x189, q189, x190, q190, x191, q191, x192, q192, x193, q193, x194, q194, x195, q195, x196, q196, x197, q197, x198, q198, x199, q199, x200, q200, x201, q201, x202, q202, x203, q203, x204, q204, h⟩ := h
        refine wpD_take (v := (V23 x183 x184 x185 x186 x187 x188 x189 x190 x191 x192 x193 x194 x195 x196 x197 x198 x199 x200 x201 x202 x203 x204)) 15 (fun w => C23 (Addr.mk b11 0 none) x183 x184 x185 x186 x187 x188 x189 x190 x191 x192 x193 x194 x195 x196 x197 x198 x199 x200 x201 x202 x203 x204 w) rfl (by kernel_rfl) (by kernel_rfl) (by kernel_rfl) (wantG rfl rfl rfl hc138) rfl rfl ⟨q183, q184, q185, q186, q187, q188, q189, q190, q191, q192, q193, q194, q195, q196, q197, q198, q199, q200, q201, q202, q203, q204⟩ (fun w q => (x_loadN (S23 x183 x184 x185 x186 x187 x188 x189 x190 x191 x192 x193 x194 x195 x196 x197 x198 x199 x200 x201 x202 x203 x204) rfl e4 SH_24 (K23 q))) ?_
        refine wpD_all (rs := [14]) (by kernel_rfl) (by simp) (allD_cons ?_ allD_nil)
        refine stepD_enterL (L' := [(15, fun w => C23 (Addr.mk b11 0 none) x183 x184 x185 x186 x187 x188 x189 x190 x191 x192 x193 x194 x195 x196 x197 x198 x199 x200 x201 x202 x203 x204 w), (10, fun _ => True), (3, fun _ => True)]) rfl (wantG rfl rfl rfl hc138) rfl rfl (x_call (vs := [(V23 x139 x140 x141 x142 x143 x144 x145 x146 x147 x148 x149 x150 x151 x152 x153 x154 x155 x156 x157 x158 x159 x160), (V23 x161 x162 x163 x164 x165 x166 x167 x168 x169 x170 x171 x172 x173 x174 x175 x176 x177 x178 x179 x180 x181 x182)]) rfl rfl (mapl_cons rfl (mapl_cons rfl mapl_nil)) Try.func17 NN_17 NB_17) (by kernel_rfl) (Calls.mono h ?_)
        rintro _ w26 ⟨r205, rfl, h⟩
        obtain ⟨o15, h⟩ := h
        refine ⟨_, rfl, (held_cons o15 (held_cons trivial (held_cons trivial held_nil))), ?_⟩
        refine wpD_all (rs := [16]) (by kernel_rfl) (by simp) (allD_cons ?_ allD_nil)
        refine stepD_enterL (L' := [(10, fun _ => True), (3, fun _ => True)]) rfl (wantG rfl rfl rfl hc138) rfl rfl (x_call (vs := [(V23 r205.1 r205.2.1 r205.2.2.1 r205.2.2.2.1 r205.2.2.2.2.1 r205.2.2.2.2.2.1 r205.2.2.2.2.2.2.1 r205.2.2.2.2.2.2.2.1 r205.2.2.2.2.2.2.2.2.1 r205.2.2.2.2.2.2.2.2.2.1 r205.2.2.2.2.2.2.2.2.2.2.1 r205.2.2.2.2.2.2.2.2.2.2.2.1 r205.2.2.2.2.2.2.2.2.2.2.2.2.1 r205.2.2.2.2.2.2.2.2.2.2.2.2.2.1 r205.2.2.2.2.2.2.2.2.2.2.2.2.2.2.1 r205.2.2.2.2.2.2.2.2.2.2.2.2.2.2.2.1 r205.2.2.2.2.2.2.2.2.2.2.2.2.2.2.2.2.1 r205.2.2.2.2.2.2.2.2.2.2.2.2.2.2.2.2.2.1 r205.2.2.2.2.2.2.2.2.2.2.2.2.2.2.2.2.2.2.1 r205.2.2.2.2.2.2.2.2.2.2.2.2.2.2.2.2.2.2.2.1 r205.2.2.2.2.2.2.2.2.2.2.2.2.2.2.2.2.2.2.2.2.1 r205.2.2.2.2.2.2.2.2.2.2.2.2.2.2.2.2.2.2.2.2.2), (V23 x183 x184 x185 x186 x187 x188 x189 x190 x191 x192 x193 x194 x195 x196 x197 x198 x199 x200 x201 x202 x203 x204)]) rfl rfl (mapl_cons rfl (mapl_cons rfl mapl_nil)) Try.func14 NN_14 NB_14) (by kernel_rfl) (Calls.mono h ?_)
        rintro _ w27 ⟨r206, rfl, h⟩
        refine ⟨_, rfl, (held_cons trivial (held_cons trivial held_nil)), ?_⟩
        refine wpD_take (v := (Value.bool r206)) 17 (fun _ => True) rfl (by kernel_rfl) (by kernel_rfl) (by kernel_rfl) rfl rfl rfl trivial (fun w _ => (x_pickT (v := (Value.bool r206)) rfl rfl hc138 rfl)) ?_
        refine wpD_take (v := (Value.bool r206)) 18 (fun _ => True) rfl (by kernel_rfl) (by kernel_rfl) (by kernel_rfl) rfl rfl rfl trivial (fun w _ => (x_assign (v := (Value.bool r206)) rfl rfl)) ?_
        exact wpD_done (by kernel_rfl) ⟨r206, ⟨rfl, e1, e2, e3, e4, e5, e6, trivial⟩, h⟩
      · replace h := h.2 hc138
        refine wpD_pass 12 rfl (by kernel_rfl) (by kernel_rfl) (by kernel_rfl) (wantN rfl rfl rfl hc138) rfl rfl ?_
        refine wpD_pass 13 rfl (by kernel_rfl) (by kernel_rfl) (by kernel_rfl) (wantN rfl rfl rfl hc138) rfl rfl ?_
        refine wpD_pass 14 rfl (by kernel_rfl) (by kernel_rfl) (by kernel_rfl) (wantN rfl rfl rfl hc138) rfl rfl ?_
        refine wpD_pass 15 rfl (by kernel_rfl) (by kernel_rfl) (by kernel_rfl) (wantN rfl rfl rfl hc138) rfl rfl ?_
        refine wpD_pass 16 rfl (by kernel_rfl) (by kernel_rfl) (by kernel_rfl) (wantN rfl rfl rfl hc138) rfl rfl ?_
        refine wpD_take (v := (Value.bool false)) 17 (fun _ => True) rfl (by kernel_rfl) (by kernel_rfl) (by kernel_rfl) rfl rfl rfl trivial (fun w _ => (x_pickF (v := (Value.bool false)) rfl rfl hc138 rfl)) ?_
        refine wpD_take (v := (Value.bool false)) 18 (fun _ => True) rfl (by kernel_rfl) (by kernel_rfl) (by kernel_rfl) rfl rfl rfl trivial (fun w _ => (x_assign (v := (Value.bool false)) rfl rfl)) ?_
        exact wpD_done (by kernel_rfl) ⟨false, ⟨rfl, e1, e2, e3, e4, e5, e6, trivial⟩, h⟩
    · replace h := h.2 hc69
      refine wpD_pass 5 rfl (by kernel_rfl) (by kernel_rfl) (by kernel_rfl) (wantN rfl rfl rfl hc69) rfl rfl ?_
      refine wpD_pass 6 rfl (by kernel_rfl) (by kernel_rfl) (by kernel_rfl) (wantN rfl rfl rfl hc69) rfl rfl ?_
      refine wpD_pass 7 rfl (by kernel_rfl) (by kernel_rfl) (by kernel_rfl) (wantN rfl rfl rfl hc69) rfl rfl ?_
      refine wpD_pass 8 rfl (by kernel_rfl) (by kernel_rfl) (by kernel_rfl) (wantN rfl rfl rfl hc69) rfl rfl ?_
      refine wpD_pass 9 rfl (by kernel_rfl) (by kernel_rfl) (by kernel_rfl) (wantN rfl rfl rfl hc69) rfl rfl ?_
      refine wpD_take (v := (Value.bool false)) 10 (fun _ => True) rfl (by kernel_rfl) (by kernel_rfl) (by kernel_rfl) rfl rfl rfl trivial (fun w _ => (x_pickF (v := (Value.bool false)) rfl rfl hc69 rfl)) ?_
      refine wpD_take (v := (Value.bool false)) 11 (fun _ => True) rfl (by kernel_rfl) (by kernel_rfl) (by kernel_rfl) rfl rfl rfl trivial (fun w _ => (x_move (v := (Value.bool false)) rfl rfl)) ?_
      refine wpD_pass 12 rfl (by kernel_rfl) (by kernel_rfl) (by kernel_rfl) (wantN rfl rfl rfl rfl) rfl rfl ?_
      refine wpD_pass 13 rfl (by kernel_rfl) (by kernel_rfl) (by kernel_rfl) (wantN rfl rfl rfl rfl) rfl rfl ?_
      refine wpD_pass 14 rfl (by kernel_rfl) (by kernel_rfl) (by kernel_rfl) (wantN rfl rfl rfl rfl) rfl rfl ?_
      refine wpD_pass 15 rfl (by kernel_rfl) (by kernel_rfl) (by kernel_rfl) (wantN rfl rfl rfl rfl) rfl rfl ?_
      refine wpD_pass 16 rfl (by kernel_rfl) (by kernel_rfl) (by kernel_rfl) (wantN rfl rfl rfl rfl) rfl rfl ?_
      refine wpD_take (v := (Value.bool false)) 17 (fun _ => True) rfl (by kernel_rfl) (by kernel_rfl) (by kernel_rfl) rfl rfl rfl trivial (fun w _ => (x_pickF (v := (Value.bool false)) rfl rfl rfl rfl)) ?_
      refine wpD_take (v := (Value.bool false)) 18 (fun _ => True) rfl (by kernel_rfl) (by kernel_rfl) (by kernel_rfl) rfl rfl rfl trivial (fun w _ => (x_assign (v := (Value.bool false)) rfl rfl)) ?_
      exact wpD_done (by kernel_rfl) ⟨false, ⟨rfl, e1, e2, e3, e4, e5, e6, trivial⟩, h⟩
  clear h
  rintro l207 ρ w28 ⟨e7, e1, e2, e3, e4, e5, e6, -⟩ h
  replace h := hk l207 w28 h
  clear hk
  refine wpC_seq ?_
  refine wpC_region ?_
  refine wpR_val (v := (Value.bool l207)) (w' := w28) rfl rfl rfl (x_move (v := (Value.bool l207)) rfl e7) ?_
  refine wpR_val (v := (Value.bool l207)) (w' := w28) rfl rfl rfl (x_move (v := (Value.bool l207)) rfl rfl) ?_
  obtain ⟨J208, h, hk⟩ := h
  refine wpR_joinJ 4 (fun x ρ => ρ 42 = Value.bool x ∧ ρ 1 = (Value.pointer (some (Addr.mk b2 0 none))) ∧ ρ 2 = (Value.pointer (some (Addr.mk b5 0 none))) ∧ ρ 3 = (Value.pointer (some (Addr.mk b8 0 none))) ∧ ρ 4 = (Value.pointer (some (Addr.mk b11 0 none))) ∧ ρ 5 = (Value.pointer (some (Addr.mk b14 0 none))) ∧ ρ 6 = (Value.pointer (some (Addr.mk b18 0 none))) ∧ True) (J208) ?_ ?_
  · clear hk
    rcases Bool.eq_false_or_eq_true (l207) with hc209 | hc209
    · replace h := h.1 hc209
      obtain ⟨x210, q210, x211, q211, x212, q212, x213, q213, x214, q214, x215, q215, x216, q216, x217, q217, x218, q218, x219, q219, x220, q220, x221, q221, x222, q222, x223, q223, x224, q224, x225, q225, x226, q226, x227, q227, x228, q228, x229, q229, x230, q230, x231, q231, h⟩ := h
      refine wpR_val (v := (V23 x210 x211 x212 x213 x214 x215 x216 x217 x218 x219 x220 x221 x222 x223 x224 x225 x226 x227 x228 x229 x230 x231)) (w' := w28) (wantG rfl rfl rfl hc209) rfl rfl (x_loadN (S23 x210 x211 x212 x213 x214 x215 x216 x217 x218 x219 x220 x221 x222 x223 x224 x225 x226 x227 x228 x229 x230 x231) rfl e1 SH_24 (K23 ⟨q210, q211, q212, q213, q214, q215, q216, q217, q218, q219, q220, q221, q222, q223, q224, q225, q226, q227, q228, q229, q230, q231⟩)) ?_
      refine wpR_enter (wantG rfl rfl rfl hc209) rfl rfl (x_call (vs := [(V23 x210 x211 x212 x213 x214 x215 x216 x217 x218 x219 x220 x221 x222 x223 x224 x225 x226 x227 x228 x229 x230 x231)]) rfl rfl (mapl_cons rfl mapl_nil) Try.func10 NN_10 NB_10) (Calls.mono h ?_)
      rintro _ w29 ⟨r232, rfl, h⟩
      refine ⟨_, rfl, ?_⟩
      refine wpR_val (v := (Value.bool (decide (r232 = 0)))) (w' := w29) (wantG rfl rfl rfl hc209) rfl rfl (x_eql rfl rfl rfl) ?_
      refine wpR_val (v := (Value.bool (decide (r232 = 0)))) (w' := w29) rfl rfl rfl (x_pickT (v := (Value.bool (decide (r232 = 0)))) rfl rfl hc209 rfl) ?_
      refine wpR_nil ?_
      exact ⟨decide (r232 = 0), ⟨rfl, e1, e2, e3, e4, e5, e6, trivial⟩, h⟩
    · replace h := h.2 hc209
      refine wpR_pass (wantN rfl rfl rfl hc209) rfl rfl ?_
      refine wpR_pass (wantN rfl rfl rfl hc209) rfl rfl ?_
      refine wpR_pass (wantN rfl rfl rfl hc209) rfl rfl ?_
      refine wpR_val (v := (Value.bool false)) (w' := w28) rfl rfl rfl (x_pickF (v := (Value.bool false)) rfl rfl hc209 rfl) ?_
      refine wpR_nil ?_
      exact ⟨false, ⟨rfl, e1, e2, e3, e4, e5, e6, trivial⟩, h⟩
  clear h
  rintro c233 ρ w30 ⟨e42, e1, e2, e3, e4, e5, e6, -⟩ h
  replace h := hk c233 w30 h
  clear hk
  refine wpR_val (v := (Value.bool c233)) (w' := w30) rfl rfl rfl (x_move (v := (Value.bool c233)) rfl e42) ?_
  obtain ⟨J234, h, hk⟩ := h
  refine wpR_joinJ 4 (fun x ρ => ρ 47 = Value.bool x ∧ ρ 1 = (Value.pointer (some (Addr.mk b2 0 none))) ∧ ρ 2 = (Value.pointer (some (Addr.mk b5 0 none))) ∧ ρ 3 = (Value.pointer (some (Addr.mk b8 0 none))) ∧ ρ 4 = (Value.pointer (some (Addr.mk b11 0 none))) ∧ ρ 5 = (Value.pointer (some (Addr.mk b14 0 none))) ∧ ρ 6 = (Value.pointer (some (Addr.mk b18 0 none))) ∧ True) (J234) ?_ ?_
  · clear hk
    rcases Bool.eq_false_or_eq_true (c233) with hc235 | hc235
    · replace h := h.1 hc235
      obtain ⟨x236, q236, x237, q237, x238, q238, x239, q239, x240, q240, x241, q241, x242, q242, x243, q243, x244, q244, x245, q245, x246, q246, x247, q247, x248, q248, x249, q249, x250, q250, x251, q251, x252, q252, x253, q253, x254, q254, x255, q255, x256, q256, x257, q257, h⟩ := h
      refine wpR_val (v := (V23 x236 x237 x238 x239 x240 x241 x242 x243 x244 x245 x246 x247 x248 x249 x250 x251 x252 x253 x254 x255 x256 x257)) (w' := w30) (wantG rfl rfl rfl hc235) rfl rfl (x_loadN (S23 x236 x237 x238 x239 x240 x241 x242 x243 x244 x245 x246 x247 x248 x249 x250 x251 x252 x253 x254 x255 x256 x257) rfl e2 SH_24 (K23 ⟨q236, q237, q238, q239, q240, q241, q242, q243, q244, q245, q246, q247, q248, q249, q250, q251, q252, q253, q254, q255, q256, q257⟩)) ?_
      refine wpR_enter (wantG rfl rfl rfl hc235) rfl rfl (x_call (vs := [(V23 x236 x237 x238 x239 x240 x241 x242 x243 x244 x245 x246 x247 x248 x249 x250 x251 x252 x253 x254 x255 x256 x257)]) rfl rfl (mapl_cons rfl mapl_nil) Try.func10 NN_10 NB_10) (Calls.mono h ?_)
      rintro _ w31 ⟨r258, rfl, h⟩
      refine ⟨_, rfl, ?_⟩
      refine wpR_val (v := (Value.bool (decide (r258 = 0)))) (w' := w31) (wantG rfl rfl rfl hc235) rfl rfl (x_eql rfl rfl rfl) ?_
      refine wpR_val (v := (Value.bool (decide (r258 = 0)))) (w' := w31) rfl rfl rfl (x_pickT (v := (Value.bool (decide (r258 = 0)))) rfl rfl hc235 rfl) ?_
      refine wpR_nil ?_
      exact ⟨decide (r258 = 0), ⟨rfl, e1, e2, e3, e4, e5, e6, trivial⟩, h⟩
    · replace h := h.2 hc235
      refine wpR_pass (wantN rfl rfl rfl hc235) rfl rfl ?_
      refine wpR_pass (wantN rfl rfl rfl hc235) rfl rfl ?_
      refine wpR_pass (wantN rfl rfl rfl hc235) rfl rfl ?_
      refine wpR_val (v := (Value.bool false)) (w' := w30) rfl rfl rfl (x_pickF (v := (Value.bool false)) rfl rfl hc235 rfl) ?_
      refine wpR_nil ?_
      exact ⟨false, ⟨rfl, e1, e2, e3, e4, e5, e6, trivial⟩, h⟩
  clear h
  rintro c259 ρ w32 ⟨e47, e1, e2, e3, e4, e5, e6, -⟩ h
  replace h := hk c259 w32 h
  clear hk
  refine wpR_val (v := (Value.bool c259)) (w' := w32) rfl rfl rfl (x_move (v := (Value.bool c259)) rfl e47) ?_
  obtain ⟨J260, h, hk⟩ := h
  refine wpR_joinJ 4 (fun x ρ => ρ 52 = Value.bool x ∧ ρ 1 = (Value.pointer (some (Addr.mk b2 0 none))) ∧ ρ 2 = (Value.pointer (some (Addr.mk b5 0 none))) ∧ ρ 3 = (Value.pointer (some (Addr.mk b8 0 none))) ∧ ρ 4 = (Value.pointer (some (Addr.mk b11 0 none))) ∧ ρ 6 = (Value.pointer (some (Addr.mk b18 0 none))) ∧ True) (J260) ?_ ?_
  · clear hk
    rcases Bool.eq_false_or_eq_true (c259) with hc261 | hc261
    · replace h := h.1 hc261
      obtain ⟨x262, q262, x263, q263, x264, q264, x265, q265, x266, q266, x267, q267, x268, q268, x269, q269, x270, q270, x271, q271, x272, q272, x273, q273, x274, q274, x275, q275, x276, q276, x277, q277, x278, q278, x279, q279, x280, q280, x281, q281, x282, q282, x283, q283, h⟩ := h
      refine wpR_val (v := (V23 x262 x263 x264 x265 x266 x267 x268 x269 x270 x271 x272 x273 x274 x275 x276 x277 x278 x279 x280 x281 x282 x283)) (w' := w32) (wantG rfl rfl rfl hc261) rfl rfl (x_loadN (S23 x262 x263 x264 x265 x266 x267 x268 x269 x270 x271 x272 x273 x274 x275 x276 x277 x278 x279 x280 x281 x282 x283) rfl e5 SH_24 (K23 ⟨q262, q263, q264, q265, q266, q267, q268, q269, q270, q271, q272, q273, q274, q275, q276, q277, q278, q279, q280, q281, q282, q283⟩)) ?_
      refine wpR_enter (wantG rfl rfl rfl hc261) rfl rfl (x_call (vs := [(V23 x262 x263 x264 x265 x266 x267 x268 x269 x270 x271 x272 x273 x274 x275 x276 x277 x278 x279 x280 x281 x282 x283)]) rfl rfl (mapl_cons rfl mapl_nil) Try.func10 NN_10 NB_10) (Calls.mono h ?_)
      rintro _ w33 ⟨r284, rfl, h⟩
      refine ⟨_, rfl, ?_⟩
      refine wpR_val (v := (Value.bool (decide (r284 = 3)))) (w' := w33) (wantG rfl rfl rfl hc261) rfl rfl (x_eql rfl rfl rfl) ?_
      refine wpR_val (v := (Value.bool (decide (r284 = 3)))) (w' := w33) rfl rfl rfl (x_pickT (v := (Value.bool (decide (r284 = 3)))) rfl rfl hc261 rfl) ?_
      refine wpR_nil ?_
      exact ⟨decide (r284 = 3), ⟨rfl, e1, e2, e3, e4, e6, trivial⟩, h⟩
    · replace h := h.2 hc261
      refine wpR_pass (wantN rfl rfl rfl hc261) rfl rfl ?_
      refine wpR_pass (wantN rfl rfl rfl hc261) rfl rfl ?_
      refine wpR_pass (wantN rfl rfl rfl hc261) rfl rfl ?_
      refine wpR_val (v := (Value.bool false)) (w' := w32) rfl rfl rfl (x_pickF (v := (Value.bool false)) rfl rfl hc261 rfl) ?_
      refine wpR_nil ?_
      exact ⟨false, ⟨rfl, e1, e2, e3, e4, e6, trivial⟩, h⟩
  clear h
  rintro c285 ρ w34 ⟨e52, e1, e2, e3, e4, e6, -⟩ h
  replace h := hk c285 w34 h
  clear hk
  refine wpR_val (v := (Value.bool c285)) (w' := w34) rfl rfl rfl (x_move (v := (Value.bool c285)) rfl e52) ?_
  obtain ⟨J286, h, hk⟩ := h
  refine wpR_joinJ 4 (fun x ρ => ρ 57 = Value.bool x ∧ ρ 1 = (Value.pointer (some (Addr.mk b2 0 none))) ∧ ρ 2 = (Value.pointer (some (Addr.mk b5 0 none))) ∧ ρ 3 = (Value.pointer (some (Addr.mk b8 0 none))) ∧ ρ 4 = (Value.pointer (some (Addr.mk b11 0 none))) ∧ True) (J286) ?_ ?_
  · clear hk
    rcases Bool.eq_false_or_eq_true (c285) with hc287 | hc287
    · replace h := h.1 hc287
      obtain ⟨x288, q288, x289, q289, x290, q290, x291, q291, x292, q292, x293, q293, x294, q294, x295, q295, x296, q296, x297, q297, x298, q298, x299, q299, x300, q300, x301, q301, x302, q302, x303, q303, x304, q304, x305, q305, x306, q306, x307, q307, x308, q308, x309, q309, h⟩ := h
      refine wpR_val (v := (V23 x288 x289 x290 x291 x292 x293 x294 x295 x296 x297 x298 x299 x300 x301 x302 x303 x304 x305 x306 x307 x308 x309)) (w' := w34) (wantG rfl rfl rfl hc287) rfl rfl (x_loadN (S23 x288 x289 x290 x291 x292 x293 x294 x295 x296 x297 x298 x299 x300 x301 x302 x303 x304 x305 x306 x307 x308 x309) rfl e6 SH_24 (K23 ⟨q288, q289, q290, q291, q292, q293, q294, q295, q296, q297, q298, q299, q300, q301, q302, q303, q304, q305, q306, q307, q308, q309⟩)) ?_
      refine wpR_enter (wantG rfl rfl rfl hc287) rfl rfl (x_call (vs := [(V23 x288 x289 x290 x291 x292 x293 x294 x295 x296 x297 x298 x299 x300 x301 x302 x303 x304 x305 x306 x307 x308 x309)]) rfl rfl (mapl_cons rfl mapl_nil) Try.func10 NN_10 NB_10) (Calls.mono h ?_)
      rintro _ w35 ⟨r310, rfl, h⟩
      refine ⟨_, rfl, ?_⟩
      refine wpR_val (v := (Value.bool (decide (r310 = 3)))) (w' := w35) (wantG rfl rfl rfl hc287) rfl rfl (x_eql rfl rfl rfl) ?_
      refine wpR_val (v := (Value.bool (decide (r310 = 3)))) (w' := w35) rfl rfl rfl (x_pickT (v := (Value.bool (decide (r310 = 3)))) rfl rfl hc287 rfl) ?_
      refine wpR_nil ?_
      exact ⟨decide (r310 = 3), ⟨rfl, e1, e2, e3, e4, trivial⟩, h⟩
    · replace h := h.2 hc287
      refine wpR_pass (wantN rfl rfl rfl hc287) rfl rfl ?_
      refine wpR_pass (wantN rfl rfl rfl hc287) rfl rfl ?_
      refine wpR_pass (wantN rfl rfl rfl hc287) rfl rfl ?_
      refine wpR_val (v := (Value.bool false)) (w' := w34) rfl rfl rfl (x_pickF (v := (Value.bool false)) rfl rfl hc287 rfl) ?_
      refine wpR_nil ?_
      exact ⟨false, ⟨rfl, e1, e2, e3, e4, trivial⟩, h⟩
  clear h
  rintro c311 ρ w36 ⟨e57, e1, e2, e3, e4, -⟩ h
  replace h := hk c311 w36 h
  clear hk
  refine wpR_val (v := (Value.bool c311)) (w' := w36) rfl rfl rfl (x_move (v := (Value.bool c311)) rfl e57) ?_
  obtain ⟨J312, h, hk⟩ := h
  refine wpR_joinJ 4 (fun x ρ => ρ 62 = Value.bool x ∧ ρ 2 = (Value.pointer (some (Addr.mk b5 0 none))) ∧ ρ 4 = (Value.pointer (some (Addr.mk b11 0 none))) ∧ True) (J312) ?_ ?_
  · clear hk
    rcases Bool.eq_false_or_eq_true (c311) with hc313 | hc313
    · replace h := h.1 hc313
      obtain ⟨x314, q314, x315, q315, x316, q316, x317, q317, x318, q318, x319, q319, x320, q320, x321, q321, x322, q322, x323, q323, x324, q324, x325, q325, x326, q326, x327, q327, x328, q328, x329, q329, x330, q330, x331, q331, x332, q332, x333, q333, x334, q334, x335, q335, h⟩ := h
      refine wpR_val (v := (V23 x314 x315 x316 x317 x318 x319 x320 x321 x322 x323 x324 x325 x326 x327 x328 x329 x330 x331 x332 x333 x334 x335)) (w' := w36) (wantG rfl rfl rfl hc313) rfl rfl (x_loadN (S23 x314 x315 x316 x317 x318 x319 x320 x321 x322 x323 x324 x325 x326 x327 x328 x329 x330 x331 x332 x333 x334 x335) rfl e3 SH_24 (K23 ⟨q314, q315, q316, q317, q318, q319, q320, q321, q322, q323, q324, q325, q326, q327, q328, q329, q330, q331, q332, q333, q334, q335⟩)) ?_
      obtain ⟨x336, q336, x337, q337, x338, q338, x339, q339, x340, q340, x341, q341, x342, q342, x343, q343, x344, q344, x345, q345, x346, q346, x347, q347, x348, q348, x349, q349, x350, q350, x351, q351, x352, q352, x353, q353, x354, q354, x355, q355, x356, q356, x357, q357, h⟩ := h
      refine wpR_val (v := (V23 x336 x337 x338 x339 x340 x341 x342 x343 x344 x345 x346 x347 x348 x349 x350 x351 x352 x353 x354 x355 x356 x357)) (w' := w36) (wantG rfl rfl rfl hc313) rfl rfl (x_loadN (S23 x336 x337 x338 x339 x340 x341 x342 x343 x344 x345 x346 x347 x348 x349 x350 x351 x352 x353 x354 x355 x356 x357) rfl e1 SH_24 (K23 ⟨q336, q337, q338, q339, q340, q341, q342, q343, q344, q345, q346, q347, q348, q349, q350, q351, q352, q353, q354, q355, q356, q357⟩)) ?_
      refine wpR_enter (wantG rfl rfl rfl hc313) rfl rfl (x_call (vs := [(V23 x314 x315 x316 x317 x318 x319 x320 x321 x322 x323 x324 x325 x326 x327 x328 x329 x330 x331 x332 x333 x334 x335), (V23 x336 x337 x338 x339 x340 x341 x342 x343 x344 x345 x346 x347 x348 x349 x350 x351 x352 x353 x354 x355 x356 x357)]) rfl rfl (mapl_cons rfl (mapl_cons rfl mapl_nil)) Try.func12 NN_12 NB_12) (Calls.mono h ?_)
      rintro _ w37 ⟨r358, rfl, h⟩
      refine ⟨_, rfl, ?_⟩
      refine wpR_val (v := (Value.bool r358)) (w' := w37) rfl rfl rfl (x_pickT (v := (Value.bool r358)) rfl rfl hc313 rfl) ?_
      refine wpR_nil ?_
      exact ⟨r358, ⟨rfl, e2, e4, trivial⟩, h⟩
    · replace h := h.2 hc313
      refine wpR_pass (wantN rfl rfl rfl hc313) rfl rfl ?_
      refine wpR_pass (wantN rfl rfl rfl hc313) rfl rfl ?_
      refine wpR_pass (wantN rfl rfl rfl hc313) rfl rfl ?_
      refine wpR_val (v := (Value.bool false)) (w' := w36) rfl rfl rfl (x_pickF (v := (Value.bool false)) rfl rfl hc313 rfl) ?_
      refine wpR_nil ?_
      exact ⟨false, ⟨rfl, e2, e4, trivial⟩, h⟩
  clear h
  rintro c359 ρ w38 ⟨e62, e2, e4, -⟩ h
  replace h := hk c359 w38 h
  clear hk
  refine wpR_val (v := (Value.bool c359)) (w' := w38) rfl rfl rfl (x_move (v := (Value.bool c359)) rfl e62) ?_
  obtain ⟨J360, h, hk⟩ := h
  refine wpR_joinJ 4 (fun x ρ => ρ 67 = Value.bool x ∧ True) (J360) ?_ ?_
  · clear hk
    rcases Bool.eq_false_or_eq_true (c359) with hc361 | hc361
    · replace h := h.1 hc361
      obtain ⟨x362, q362, x363, q363, x364, q364, x365, q365, x366, q366, x367, q367, x368, q368, x369, q369, x370, q370, x371, q371, x372, q372, x373, q373, x374, q374, x375, q375, x376, q376, x377, q377, x378, q378, x379, q379, x380, q380, x381, q381, x382, q382, x383, q383, h⟩ := h
      refine wpR_val (v := (V23 x362 x363 x364 x365 x366 x367 x368 x369 x370 x371 x372 x373 x374 x375 x376 x377 x378 x379 x380 x381 x382 x383)) (w' := w38) (wantG rfl rfl rfl hc361) rfl rfl (x_loadN (S23 x362 x363 x364 x365 x366 x367 x368 x369 x370 x371 x372 x373 x374 x375 x376 x377 x378 x379 x380 x381 x382 x383) rfl e2 SH_24 (K23 ⟨q362, q363, q364, q365, q366, q367, q368, q369, q370, q371, q372, q373, q374, q375, q376, q377, q378, q379, q380, q381, q382, q383⟩)) ?_
      obtain ⟨x384, q384, x385, q385, x386, q386, x387, q387, x388, q388, x389, q389, x390, q390, x391, q391, x392, q392, x393, q393, x394, q394, x395, q395, x396, q396, x397, q397, x398, q398, x399, q399, x400, q400, x401, q401, x402, q402, x403, q403, x404, q404, x405, q405, h⟩ := h
      refine wpR_val (v := (V23 x384 x385 x386 x387 x388 x389 x390 x391 x392 x393 x394 x395 x396 x397 x398 x399 x400 x401 x402 x403 x404 x405)) (w' := w38) (wantG rfl rfl rfl hc361) rfl rfl (x_loadN (S23 x384 x385 x386 x387 x388 x389 x390 x391 x392 x393 x394 x395 x396 x397 x398 x399 x400 x401 x402 x403 x404 x405) rfl e4 SH_24 (K23 ⟨q384, q385, q386, q387, q388, q389, q390, q391, q392, q393, q394, q395, q396, q397, q398, q399, q400, q401, q402, q403, q404, q405⟩)) ?_
      refine wpR_enter (wantG rfl rfl rfl hc361) rfl rfl (x_call (vs := [(V23 x362 x363 x364 x365 x366 x367 x368 x369 x370 x371 x372 x373 x374 x375 x376 x377 x378 x379 x380 x381 x382 x383), (V23 x384 x385 x386 x387 x388 x389 x390 x391 x392 x393 x394 x395 x396 x397 x398 x399 x400 x401 x402 x403 x404 x405)]) rfl rfl (mapl_cons rfl (mapl_cons rfl mapl_nil)) Try.func12 NN_12 NB_12) (Calls.mono h ?_)
      rintro _ w39 ⟨r406, rfl, h⟩
      refine ⟨_, rfl, ?_⟩
      refine wpR_val (v := (Value.bool r406)) (w' := w39) rfl rfl rfl (x_pickT (v := (Value.bool r406)) rfl rfl hc361 rfl) ?_
      refine wpR_nil ?_
      exact ⟨r406, ⟨rfl, trivial⟩, h⟩
    · replace h := h.2 hc361
      refine wpR_pass (wantN rfl rfl rfl hc361) rfl rfl ?_
      refine wpR_pass (wantN rfl rfl rfl hc361) rfl rfl ?_
      refine wpR_pass (wantN rfl rfl rfl hc361) rfl rfl ?_
      refine wpR_val (v := (Value.bool false)) (w' := w38) rfl rfl rfl (x_pickF (v := (Value.bool false)) rfl rfl hc361 rfl) ?_
      refine wpR_nil ?_
      exact ⟨false, ⟨rfl, trivial⟩, h⟩
  clear h
  rintro c407 ρ w40 ⟨e67, -⟩ h
  replace h := hk c407 w40 h
  clear hk
  refine wpR_val (v := (Value.bool c407)) (w' := w40) rfl rfl rfl (x_assign (v := (Value.bool c407)) rfl e67) ?_
  refine wpR_nil ?_
  refine wpC_ret ?_
  exact ⟨.inl rfl, fun a ha => ⟨_, results_rep1 rfl ha rfl, c407, rfl, h⟩⟩

/-- lingualaw13.few -/
def F9 (p0_0 : ByteArray) (p0_1 : Int) (p0_2 : Int) (p0_3 : Int) (p0_4 : Bool) (p0_5 : Int) (p0_6 : Bool) (p0_7 : Bool) (p0_8 : Int) (p0_9 : Int) (p0_10 : Int) (p0_11 : Int) (p0_12 : Sl) (p0_13 : Int) (p0_14 : Int) (p0_15 : Int) (p0_16 : Int) (p0_17 : Bool) (p0_18 : Int) (p0_19 : Int) (p0_20 : Int) (p0_21 : Int) (p1_0 : ByteArray) (p1_1 : Int) (p1_2 : Int) (p1_3 : Int) (p1_4 : Bool) (p1_5 : Int) (p1_6 : Bool) (p1_7 : Bool) (p1_8 : Int) (p1_9 : Int) (p1_10 : Int) (p1_11 : Int) (p1_12 : Sl) (p1_13 : Int) (p1_14 : Int) (p1_15 : Int) (p1_16 : Int) (p1_17 : Bool) (p1_18 : Int) (p1_19 : Int) (p1_20 : Int) (p1_21 : Int) (p2_0 : ByteArray) (p2_1 : Int) (p2_2 : Int) (p2_3 : Int) (p2_4 : Bool) (p2_5 : Int) (p2_6 : Bool) (p2_7 : Bool) (p2_8 : Int) (p2_9 : Int) (p2_10 : Int) (p2_11 : Int) (p2_12 : Sl) (p2_13 : Int) (p2_14 : Int) (p2_15 : Int) (p2_16 : Int) (p2_17 : Bool) (p2_18 : Int) (p2_19 : Int) (p2_20 : Int) (p2_21 : Int) (w0 : World) (K : Bool → World → Prop) : Prop :=
  nw 24 (A23 p0_0 p0_1 p0_2 p0_3 p0_4 p0_5 p0_6 p0_7 p0_8 p0_9 p0_10 p0_11 p0_12 p0_13 p0_14 p0_15 p0_16 p0_17 p0_18 p0_19 p0_20 p0_21) w0 fun b1 w1 =>
  nw 24 (A23 p1_0 p1_1 p1_2 p1_3 p1_4 p1_5 p1_6 p1_7 p1_8 p1_9 p1_10 p1_11 p1_12 p1_13 p1_14 p1_15 p1_16 p1_17 p1_18 p1_19 p1_20 p1_21) w1 fun b2 w2 =>
  nw 24 (A23 p2_0 p2_1 p2_2 p2_3 p2_4 p2_5 p2_6 p2_7 p2_8 p2_9 p2_10 p2_11 p2_12 p2_13 p2_14 p2_15 p2_16 p2_17 p2_18 p2_19 p2_20 p2_21) w2 fun b3 w3 =>
  L23 (Addr.mk b1 0 none) w3 fun x4 x5 x6 x7 x8 x9 x10 x11 x12 x13 x14 x15 x16 x17 x18 x19 x20 x21 x22 x23 x24 x25 =>
  callC Try.prog 23 #[(V23 x4 x5 x6 x7 x8 x9 x10 x11 x12 x13 x14 x15 x16 x17 x18 x19 x20 x21 x22 x23 x24 x25)] (fun (r : Bool) => (Value.bool r)) w3 fun r26 w4 =>
  jn (fun J27 => cnd (r26)
    (
    L23 (Addr.mk b2 0 none) w4 fun x29 x30 x31 x32 x33 x34 x35 x36 x37 x38 x39 x40 x41 x42 x43 x44 x45 x46 x47 x48 x49 x50 =>
    callC Try.prog 23 #[(V23 x29 x30 x31 x32 x33 x34 x35 x36 x37 x38 x39 x40 x41 x42 x43 x44 x45 x46 x47 x48 x49 x50)] (fun (r : Bool) => (Value.bool r)) w4 fun r51 w5 =>
    J27 r51 w5
    )
    (
    J27 false w4
    ))
  fun c52 w6 =>
  jn (fun J53 => cnd (c52)
    (
    L23 (Addr.mk b3 0 none) w6 fun x55 x56 x57 x58 x59 x60 x61 x62 x63 x64 x65 x66 x67 x68 x69 x70 x71 x72 x73 x74 x75 x76 =>
    callC Try.prog 23 #[(V23 x55 x56 x57 x58 x59 x60 x61 x62 x63 x64 x65 x66 x67 x68 x69 x70 x71 x72 x73 x74 x75 x76)] (fun (r : Bool) => (Value.bool r)) w6 fun r77 w7 =>
    J53 r77 w7
    )
    (
    J53 false w6
    ))
  fun c78 w8 =>
  K c78 w8
set_option maxRecDepth 100000 in
theorem D9 (p0_0 : ByteArray) (p0_1 : Int) (p0_2 : Int) (p0_3 : Int) (p0_4 : Bool) (p0_5 : Int) (p0_6 : Bool) (p0_7 : Bool) (p0_8 : Int) (p0_9 : Int) (p0_10 : Int) (p0_11 : Int) (p0_12 : Sl) (p0_13 : Int) (p0_14 : Int) (p0_15 : Int) (p0_16 : Int) (p0_17 : Bool) (p0_18 : Int) (p0_19 : Int) (p0_20 : Int) (p0_21 : Int) (p1_0 : ByteArray) (p1_1 : Int) (p1_2 : Int) (p1_3 : Int) (p1_4 : Bool) (p1_5 : Int) (p1_6 : Bool) (p1_7 : Bool) (p1_8 : Int) (p1_9 : Int) (p1_10 : Int) (p1_11 : Int) (p1_12 : Sl) (p1_13 : Int) (p1_14 : Int) (p1_15 : Int) (p1_16 : Int) (p1_17 : Bool) (p1_18 : Int) (p1_19 : Int) (p1_20 : Int) (p1_21 : Int) (p2_0 : ByteArray) (p2_1 : Int) (p2_2 : Int) (p2_3 : Int) (p2_4 : Bool) (p2_5 : Int) (p2_6 : Bool) (p2_7 : Bool) (p2_8 : Int) (p2_9 : Int) (p2_10 : Int) (p2_11 : Int) (p2_12 : Sl) (p2_13 : Int) (p2_14 : Int) (p2_15 : Int) (p2_16 : Int) (p2_17 : Bool) (p2_18 : Int) (p2_19 : Int) (p2_20 : Int) (p2_21 : Int) (w0 : World) (K : Bool → World → Prop) (h : F9 p0_0 p0_1 p0_2 p0_3 p0_4 p0_5 p0_6 p0_7 p0_8 p0_9 p0_10 p0_11 p0_12 p0_13 p0_14 p0_15 p0_16 p0_17 p0_18 p0_19 p0_20 p0_21 p1_0 p1_1 p1_2 p1_3 p1_4 p1_5 p1_6 p1_7 p1_8 p1_9 p1_10 p1_11 p1_12 p1_13 p1_14 p1_15 p1_16 p1_17 p1_18 p1_19 p1_20 p1_21 p2_0 p2_1 p2_2 p2_3 p2_4 p2_5 p2_6 p2_7 p2_8 p2_9 p2_10 p2_11 p2_12 p2_13 p2_14 p2_15 p2_16 p2_17 p2_18 p2_19 p2_20 p2_21 w0 K) : callC Try.prog 9 #[(V23 p0_0 p0_1 p0_2 p0_3 p0_4 p0_5 p0_6 p0_7 p0_8 p0_9 p0_10 p0_11 p0_12 p0_13 p0_14 p0_15 p0_16 p0_17 p0_18 p0_19 p0_20 p0_21), (V23 p1_0 p1_1 p1_2 p1_3 p1_4 p1_5 p1_6 p1_7 p1_8 p1_9 p1_10 p1_11 p1_12 p1_13 p1_14 p1_15 p1_16 p1_17 p1_18 p1_19 p1_20 p1_21), (V23 p2_0 p2_1 p2_2 p2_3 p2_4 p2_5 p2_6 p2_7 p2_8 p2_9 p2_10 p2_11 p2_12 p2_13 p2_14 p2_15 p2_16 p2_17 p2_18 p2_19 p2_20 p2_21)] (fun (r : Bool) => (Value.bool r)) w0 K := by
  unfold F9 at h
  refine calls_of_wpC Try.func9 rfl 17 rfl (by simp) ?_
  intro ρ hρ
  have e0 : ρ 0 = (V23 p0_0 p0_1 p0_2 p0_3 p0_4 p0_5 p0_6 p0_7 p0_8 p0_9 p0_10 p0_11 p0_12 p0_13 p0_14 p0_15 p0_16 p0_17 p0_18 p0_19 p0_20 p0_21) := hρ 0
  have e1 : ρ 1 = (V23 p1_0 p1_1 p1_2 p1_3 p1_4 p1_5 p1_6 p1_7 p1_8 p1_9 p1_10 p1_11 p1_12 p1_13 p1_14 p1_15 p1_16 p1_17 p1_18 p1_19 p1_20 p1_21) := hρ 1
  have e2 : ρ 2 = (V23 p2_0 p2_1 p2_2 p2_3 p2_4 p2_5 p2_6 p2_7 p2_8 p2_9 p2_10 p2_11 p2_12 p2_13 p2_14 p2_15 p2_16 p2_17 p2_18 p2_19 p2_20 p2_21) := hρ 2
  clear hρ
  refine wpC_seq ?_
  refine wpC_region ?_
  obtain ⟨b1, hb1⟩ : ∃ u, u = w0.heap.size := ⟨_, rfl⟩
  obtain ⟨w1, hw1⟩ : ∃ u, u = w0.alloc (.cells (A23 p0_0 p0_1 p0_2 p0_3 p0_4 p0_5 p0_6 p0_7 p0_8 p0_9 p0_10 p0_11 p0_12 p0_13 p0_14 p0_15 p0_16 p0_17 p0_18 p0_19 p0_20 p0_21) 24) := ⟨_, rfl⟩
  replace h := h b1 w1 hb1 hw1
  refine wpR_val (v := (Value.pointer (some (Addr.mk b1 0 none)))) (w' := w1) rfl rfl rfl ((x_box (v := (V23 p0_0 p0_1 p0_2 p0_3 p0_4 p0_5 p0_6 p0_7 p0_8 p0_9 p0_10 p0_11 p0_12 p0_13 p0_14 p0_15 p0_16 p0_17 p0_18 p0_19 p0_20 p0_21)) rfl e0).trans (by rw [hb1, hw1]; rfl)) ?_
  obtain ⟨b2, hb2⟩ : ∃ u, u = w1.heap.size := ⟨_, rfl⟩
  obtain ⟨w2, hw2⟩ : ∃ u, u = w1.alloc (.cells (A23 p1_0 p1_1 p1_2 p1_3 p1_4 p1_5 p1_6 p1_7 p1_8 p1_9 p1_10 p1_11 p1_12 p1_13 p1_14 p1_15 p1_16 p1_17 p1_18 p1_19 p1_20 p1_21) 24) := ⟨_, rfl⟩
  replace h := h b2 w2 hb2 hw2
  refine wpR_val (v := (Value.pointer (some (Addr.mk b2 0 none)))) (w' := w2) rfl rfl rfl ((x_box (v := (V23 p1_0 p1_1 p1_2 p1_3 p1_4 p1_5 p1_6 p1_7 p1_8 p1_9 p1_10 p1_11 p1_12 p1_13 p1_14 p1_15 p1_16 p1_17 p1_18 p1_19 p1_20 p1_21)) rfl e1).trans (by rw [hb2, hw2]; rfl)) ?_
  obtain ⟨b3, hb3⟩ : ∃ u, u = w2.heap.size := ⟨_, rfl⟩
  obtain ⟨w3, hw3⟩ : ∃ u, u = w2.alloc (.cells (A23 p2_0 p2_1 p2_2 p2_3 p2_4 p2_5 p2_6 p2_7 p2_8 p2_9 p2_10 p2_11 p2_12 p2_13 p2_14 p2_15 p2_16 p2_17 p2_18 p2_19 p2_20 p2_21) 24) := ⟨_, rfl⟩
  replace h := h b3 w3 hb3 hw3
  refine wpR_val (v := (Value.pointer (some (Addr.mk b3 0 none)))) (w' := w3) rfl rfl rfl ((x_box (v := (V23 p2_0 p2_1 p2_2 p2_3 p2_4 p2_5 p2_6 p2_7 p2_8 p2_9 p2_10 p2_11 p2_12 p2_13 p2_14 p2_15 p2_16 p2_17 p2_18 p2_19 p2_20 p2_21)) rfl e2).trans (by rw [hb3, hw3]; rfl)) ?_
  refine wpR_val (v := (Value.bool false)) (w' := w3) rfl rfl rfl (x_assign (v := (Value.bool false)) rfl rfl) ?_
  refine wpR_nil ?_
  refine wpC_seq ?_
  refine wpC_cut (fun ρ => ρ 3 = (Value.pointer (some (Addr.mk b1 0 none))) ∧ ρ 4 = (Value.pointer (some (Addr.mk b2 0 none))) ∧ ρ 5 = (Value.pointer (some (Addr.mk b3 0 none))) ∧ True) ⟨rfl, rfl, rfl, trivial⟩ ?_
  rintro ρ ⟨e3, e4, e5, -⟩
  refine wpC_region ?_
  obtain ⟨x4, q4, x5, q5, x6, q6, x7, q7, x8, q8, x9, q9, x10, q10, x11, q11, x12, q12, x13, q13, x14, q14, x15, q15, x16, q16, x17, q17, x18, q18, x19, q19, x20, q20, x21, q21, x22, q22, x23, q23, x24, q24, x25, q25, h⟩ := h
  refine wpR_val (v := (V23 x4 x5 x6 x7 x8 x9 x10 x11 x12 x13 x14 x15 x16 x17 x18 x19 x20 x21 x22 x23 x24 x25)) (w' := w3) rfl rfl rfl (x_loadN (S23 x4 x5 x6 x7 x8 x9 x10 x11 x12 x13 x14 x15 x16 x17 x18 x19 x20 x21 x22 x23 x24 x25) rfl e3 SH_24 (K23 ⟨q4, q5, q6, q7, q8, q9, q10, q11, q12, q13, q14, q15, q16, q17, q18, q19, q20, q21, q22, q23, q24, q25⟩)) ?_
  refine wpR_enter rfl rfl rfl (x_call (vs := [(V23 x4 x5 x6 x7 x8 x9 x10 x11 x12 x13 x14 x15 x16 x17 x18 x19 x20 x21 x22 x23 x24 x25)]) rfl rfl (mapl_cons rfl mapl_nil) Try.func23 NN_23 NB_23) (Calls.mono h ?_)
  rintro _ w4 ⟨r26, rfl, h⟩
  refine ⟨_, rfl, ?_⟩
  refine wpR_val (v := (Value.bool r26)) (w' := w4) rfl rfl rfl (x_move (v := (Value.bool r26)) rfl rfl) ?_
  obtain ⟨J27, h, hk⟩ := h
  refine wpR_joinJ 3 (fun x ρ => ρ 12 = Value.bool x ∧ ρ 5 = (Value.pointer (some (Addr.mk b3 0 none))) ∧ True) (J27) ?_ ?_
  · clear hk
    rcases Bool.eq_false_or_eq_true (r26) with hc28 | hc28
    · replace h := h.1 hc28
      obtain ⟨x29, q29, x30, q30, x31, q31, x32, q32, x33, q33, x34, q34, x35, q35, x36, q36, x37, q37, x38, q38, x39, q39, x40, q40, x41, q41, x42, q42, x43, q43, x44, q44, x45, q45, x46, q46, x47, q47, x48, q48, x49, q49, x50, q50, h⟩ := h
      refine wpR_val (v := (V23 x29 x30 x31 x32 x33 x34 x35 x36 x37 x38 x39 x40 x41 x42 x43 x44 x45 x46 x47 x48 x49 x50)) (w' := w4) (wantG rfl rfl rfl hc28) rfl rfl (x_loadN (S23 x29 x30 x31 x32 x33 x34 x35 x36 x37 x38 x39 x40 x41 x42 x43 x44 x45 x46 x47 x48 x49 x50) rfl e4 SH_24 (K23 ⟨q29, q30, q31, q32, q33, q34, q35, q36, q37, q38, q39, q40, q41, q42, q43, q44, q45, q46, q47, q48, q49, q50⟩)) ?_
      refine wpR_enter (wantG rfl rfl rfl hc28) rfl rfl (x_call (vs := [(V23 x29 x30 x31 x32 x33 x34 x35 x36 x37 x38 x39 x40 x41 x42 x43 x44 x45 x46 x47 x48 x49 x50)]) rfl rfl (mapl_cons rfl mapl_nil) Try.func23 NN_23 NB_23) (Calls.mono h ?_)
      rintro _ w5 ⟨r51, rfl, h⟩
      refine ⟨_, rfl, ?_⟩
      refine wpR_val (v := (Value.bool r51)) (w' := w5) rfl rfl rfl (x_pickT (v := (Value.bool r51)) rfl rfl hc28 rfl) ?_
      refine wpR_nil ?_
      exact ⟨r51, ⟨rfl, e5, trivial⟩, h⟩
    · replace h := h.2 hc28
      refine wpR_pass (wantN rfl rfl rfl hc28) rfl rfl ?_
      refine wpR_pass (wantN rfl rfl rfl hc28) rfl rfl ?_
      refine wpR_val (v := (Value.bool false)) (w' := w4) rfl rfl rfl (x_pickF (v := (Value.bool false)) rfl rfl hc28 rfl) ?_
      refine wpR_nil ?_
      exact ⟨false, ⟨rfl, e5, trivial⟩, h⟩
  clear h
  rintro c52 ρ w6 ⟨e12, e5, -⟩ h
  replace h := hk c52 w6 h
  clear hk
  refine wpR_val (v := (Value.bool c52)) (w' := w6) rfl rfl rfl (x_move (v := (Value.bool c52)) rfl e12) ?_
  obtain ⟨J53, h, hk⟩ := h
  refine wpR_joinJ 3 (fun x ρ => ρ 16 = Value.bool x ∧ True) (J53) ?_ ?_
  · clear hk
    rcases Bool.eq_false_or_eq_true (c52) with hc54 | hc54
    · replace h := h.1 hc54
      obtain ⟨x55, q55, x56, q56, x57, q57, x58, q58, x59, q59, x60, q60, x61, q61, x62, q62, x63, q63, x64, q64, x65, q65, x66, q66, x67, q67, x68, q68, x69, q69, x70, q70, x71, q71, x72, q72, x73, q73, x74, q74, x75, q75, x76, q76, h⟩ := h
      refine wpR_val (v := (V23 x55 x56 x57 x58 x59 x60 x61 x62 x63 x64 x65 x66 x67 x68 x69 x70 x71 x72 x73 x74 x75 x76)) (w' := w6) (wantG rfl rfl rfl hc54) rfl rfl (x_loadN (S23 x55 x56 x57 x58 x59 x60 x61 x62 x63 x64 x65 x66 x67 x68 x69 x70 x71 x72 x73 x74 x75 x76) rfl e5 SH_24 (K23 ⟨q55, q56, q57, q58, q59, q60, q61, q62, q63, q64, q65, q66, q67, q68, q69, q70, q71, q72, q73, q74, q75, q76⟩)) ?_
      refine wpR_enter (wantG rfl rfl rfl hc54) rfl rfl (x_call (vs := [(V23 x55 x56 x57 x58 x59 x60 x61 x62 x63 x64 x65 x66 x67 x68 x69 x70 x71 x72 x73 x74 x75 x76)]) rfl rfl (mapl_cons rfl mapl_nil) Try.func23 NN_23 NB_23) (Calls.mono h ?_)
      rintro _ w7 ⟨r77, rfl, h⟩
      refine ⟨_, rfl, ?_⟩
      refine wpR_val (v := (Value.bool r77)) (w' := w7) rfl rfl rfl (x_pickT (v := (Value.bool r77)) rfl rfl hc54 rfl) ?_
      refine wpR_nil ?_
      exact ⟨r77, ⟨rfl, trivial⟩, h⟩
    · replace h := h.2 hc54
      refine wpR_pass (wantN rfl rfl rfl hc54) rfl rfl ?_
      refine wpR_pass (wantN rfl rfl rfl hc54) rfl rfl ?_
      refine wpR_val (v := (Value.bool false)) (w' := w6) rfl rfl rfl (x_pickF (v := (Value.bool false)) rfl rfl hc54 rfl) ?_
      refine wpR_nil ?_
      exact ⟨false, ⟨rfl, trivial⟩, h⟩
  clear h
  rintro c78 ρ w8 ⟨e16, -⟩ h
  replace h := hk c78 w8 h
  clear hk
  refine wpR_val (v := (Value.bool c78)) (w' := w8) rfl rfl rfl (x_assign (v := (Value.bool c78)) rfl e16) ?_
  refine wpR_nil ?_
  refine wpC_ret ?_
  exact ⟨.inl rfl, fun a ha => ⟨_, results_rep1 rfl ha rfl, c78, rfl, h⟩⟩

/-- profile.Check -/
def F10 (p0_0 : ByteArray) (p0_1 : Int) (p0_2 : Int) (p0_3 : Int) (p0_4 : Bool) (p0_5 : Int) (p0_6 : Bool) (p0_7 : Bool) (p0_8 : Int) (p0_9 : Int) (p0_10 : Int) (p0_11 : Int) (p0_12 : Sl) (p0_13 : Int) (p0_14 : Int) (p0_15 : Int) (p0_16 : Int) (p0_17 : Bool) (p0_18 : Int) (p0_19 : Int) (p0_20 : Int) (p0_21 : Int) (w0 : World) (K : Int → World → Prop) : Prop :=
  nw 24 (A23 p0_0 p0_1 p0_2 p0_3 p0_4 p0_5 p0_6 p0_7 p0_8 p0_9 p0_10 p0_11 p0_12 p0_13 p0_14 p0_15 p0_16 p0_17 p0_18 p0_19 p0_20 p0_21) w0 fun b1 w1 =>
  L23 (Addr.mk b1 0 none) w1 fun x2 x3 x4 x5 x6 x7 x8 x9 x10 x11 x12 x13 x14 x15 x16 x17 x18 x19 x20 x21 x22 x23 =>
  callC Try.prog 24 #[(V23 x2 x3 x4 x5 x6 x7 x8 x9 x10 x11 x12 x13 x14 x15 x16 x17 x18 x19 x20 x21 x22 x23)] (fun (r : Bool) => (Value.bool r)) w1 fun r24 w2 =>
  cnd (!r24)
    (
    K 1 w2
    )
    (
    ld (Value.int .i64) ((Addr.mk b1 0 none).add 8) w2 fun x26 =>
    callC Try.prog 25 #[(Value.int .i64 x26), (Value.int .i64 40), (Value.int .i64 4000)] (fun (r : Bool) => (Value.bool r)) w2 fun r27 w3 =>
    jn (fun J28 => cnd (!r27)
      (
      J28 true w3
      )
      (
      ld (Value.int .i64) ((Addr.mk b1 0 none).add 9) w3 fun x30 =>
      callC Try.prog 25 #[(Value.int .i64 x30), (Value.int .i64 1), (Value.int .i64 20)] (fun (r : Bool) => (Value.bool r)) w3 fun r31 w4 =>
      J28 (!r31) w4
      ))
    fun c32 w5 =>
    jp (fun J33 => cnd (c32)
      (
      J33 true
      )
      (
      ld (Value.int .i64) ((Addr.mk b1 0 none).add 10) w5 fun x35 =>
      J33 (decide (4 < x35))
      ))
    fun c36 =>
    jp (fun J37 => cnd (c36)
      (
      J37 true
      )
      (
      ld (Value.int .i64) ((Addr.mk b1 0 none).add 11) w5 fun x39 =>
      J37 (decide (65536 < x39))
      ))
    fun c40 =>
    jp (fun J41 => cnd (c40)
      (
      J41 true
      )
      (
      ld (Value.int .i64) ((Addr.mk b1 0 none).add 18) w5 fun x43 =>
      J41 (decide (x43 < 1))
      ))
    fun c44 =>
    jp (fun J45 => cnd (c44)
      (
      J45 true
      )
      (
      ld (Value.int .i64) ((Addr.mk b1 0 none).add 19) w5 fun x47 =>
      jp (fun J48 => cnd (!decide (x47 = 0))
        (
        ld (Value.int .i64) ((Addr.mk b1 0 none).add 19) w5 fun x50 =>
        ld (Value.int .i64) ((Addr.mk b1 0 none).add 20) w5 fun x51 =>
        J48 (decide (x51 ≤ x50))
        )
        (
        J48 false
        ))
      fun c52 =>
      J45 c52
      ))
    fun c53 =>
    jn (fun J54 => cnd (c53)
      (
      J54 true w5
      )
      (
      L23 (Addr.mk b1 0 none) w5 fun x56 x57 x58 x59 x60 x61 x62 x63 x64 x65 x66 x67 x68 x69 x70 x71 x72 x73 x74 x75 x76 x77 =>
      callC Try.prog 26 #[(V23 x56 x57 x58 x59 x60 x61 x62 x63 x64 x65 x66 x67 x68 x69 x70 x71 x72 x73 x74 x75 x76 x77)] (fun (r : Bool) => (Value.bool r)) w5 fun r78 w6 =>
      J54 (!r78) w6
      ))
    fun c79 w7 =>
    cnd (c79)
      (
      K 3 w7
      )
      (
      ld Sl.v ((Addr.mk b1 0 none).add 12) w7 fun x81 =>
      lp (fun (next82 : Int → World → Prop) l82 w8 =>
        cnd (decide (l82 < (x81.len : Int)))
          (
          ix x81 l82 1 fun p84 =>
          ld Value.string p84 w8 fun x85 =>
          ld Sl.v ((Addr.mk b1 0 none).add 12) w8 fun x86 =>
          rn Try.prog (Instr.sliceAt 22 (Sl.v x86) none (some (Value.int .i64 l82)) none) (fun (r : Sl) => (Sl.v r)) w8 fun r87 w9 =>
          callC Try.prog 27 #[(Sl.v r87), (Value.string x85)] (fun (r : Bool) => (Value.bool r)) w9 fun r88 w10 =>
          cnd (r88)
            (
            K 5 w10
            )
            (
            next82 (IntKind.i64.wrap (l82 + 1)) w10
            )
          )
          (
          K 0 w8
          )
      ) 0 w7
      )
    )
set_option maxRecDepth 100000 in
theorem D10 (p0_0 : ByteArray) (p0_1 : Int) (p0_2 : Int) (p0_3 : Int) (p0_4 : Bool) (p0_5 : Int) (p0_6 : Bool) (p0_7 : Bool) (p0_8 : Int) (p0_9 : Int) (p0_10 : Int) (p0_11 : Int) (p0_12 : Sl) (p0_13 : Int) (p0_14 : Int) (p0_15 : Int) (p0_16 : Int) (p0_17 : Bool) (p0_18 : Int) (p0_19 : Int) (p0_20 : Int) (p0_21 : Int) (w0 : World) (K : Int → World → Prop) (h : F10 p0_0 p0_1 p0_2 p0_3 p0_4 p0_5 p0_6 p0_7 p0_8 p0_9 p0_10 p0_11 p0_12 p0_13 p0_14 p0_15 p0_16 p0_17 p0_18 p0_19 p0_20 p0_21 w0 K) : callC Try.prog 10 #[(V23 p0_0 p0_1 p0_2 p0_3 p0_4 p0_5 p0_6 p0_7 p0_8 p0_9 p0_10 p0_11 p0_12 p0_13 p0_14 p0_15 p0_16 p0_17 p0_18 p0_19 p0_20 p0_21)] (fun (r : Int) => (Value.int .i64 r)) w0 K := by
  unfold F10 at h
  refine calls_of_wpC Try.func10 rfl 65 rfl (by simp) ?_
  intro ρ hρ
  have e0 : ρ 0 = (V23 p0_0 p0_1 p0_2 p0_3 p0_4 p0_5 p0_6 p0_7 p0_8 p0_9 p0_10 p0_11 p0_12 p0_13 p0_14 p0_15 p0_16 p0_17 p0_18 p0_19 p0_20 p0_21) := hρ 0
  clear hρ
  refine wpC_seq ?_
  refine wpC_region ?_
  obtain ⟨b1, hb1⟩ : ∃ u, u = w0.heap.size := ⟨_, rfl⟩
  obtain ⟨w1, hw1⟩ : ∃ u, u = w0.alloc (.cells (A23 p0_0 p0_1 p0_2 p0_3 p0_4 p0_5 p0_6 p0_7 p0_8 p0_9 p0_10 p0_11 p0_12 p0_13 p0_14 p0_15 p0_16 p0_17 p0_18 p0_19 p0_20 p0_21) 24) := ⟨_, rfl⟩
  replace h := h b1 w1 hb1 hw1
  refine wpR_val (v := (Value.pointer (some (Addr.mk b1 0 none)))) (w' := w1) rfl rfl rfl ((x_box (v := (V23 p0_0 p0_1 p0_2 p0_3 p0_4 p0_5 p0_6 p0_7 p0_8 p0_9 p0_10 p0_11 p0_12 p0_13 p0_14 p0_15 p0_16 p0_17 p0_18 p0_19 p0_20 p0_21)) rfl e0).trans (by rw [hb1, hw1]; rfl)) ?_
  refine wpR_val (v := (Value.int .i64 0)) (w' := w1) rfl rfl rfl (x_assign (v := (Value.int .i64 0)) rfl rfl) ?_
  refine wpR_nil ?_
  refine wpC_seq ?_
  refine wpC_seq ?_
  refine wpC_cut (fun ρ => ρ 1 = (Value.pointer (some (Addr.mk b1 0 none))) ∧ True) ⟨rfl, trivial⟩ ?_
  rintro ρ ⟨e1, -⟩
  refine wpC_region ?_
  obtain ⟨x2, q2, x3, q3, x4, q4, x5, q5, x6, q6, x7, q7, x8, q8, x9, q9, x10, q10, x11, q11, x12, q12, x13, q13, x14, q14, x15, q15, x16, q16, x17, q17, x18, q18, x19, q19, x20, q20, x21, q21, x22, q22, x23, q23, h⟩ := h
  refine wpR_val (v := (V23 x2 x3 x4 x5 x6 x7 x8 x9 x10 x11 x12 x13 x14 x15 x16 x17 x18 x19 x20 x21 x22 x23)) (w' := w1) rfl rfl rfl (x_loadN (S23 x2 x3 x4 x5 x6 x7 x8 x9 x10 x11 x12 x13 x14 x15 x16 x17 x18 x19 x20 x21 x22 x23) rfl e1 SH_24 (K23 ⟨q2, q3, q4, q5, q6, q7, q8, q9, q10, q11, q12, q13, q14, q15, q16, q17, q18, q19, q20, q21, q22, q23⟩)) ?_
  refine wpR_enter rfl rfl rfl (x_call (vs := [(V23 x2 x3 x4 x5 x6 x7 x8 x9 x10 x11 x12 x13 x14 x15 x16 x17 x18 x19 x20 x21 x22 x23)]) rfl rfl (mapl_cons rfl mapl_nil) Try.func24 NN_24 NB_24) (Calls.mono h ?_)
  rintro _ w2 ⟨r24, rfl, h⟩
  refine ⟨_, rfl, ?_⟩
  refine wpR_val (v := (Value.bool (!r24))) (w' := w2) rfl rfl rfl (x_not rfl rfl) ?_
  refine wpR_nil ?_
  refine wpC_cond (b := !r24) rfl (fun hc25 => ?_) (fun hc25 => ?_)
  · replace h := h.1 hc25
    refine wpC_seq ?_
    refine wpC_cut (fun ρ => True) trivial ?_
    rintro ρ -
    refine wpC_region ?_
    refine wpR_val (v := (Value.int .i64 1)) (w' := w2) rfl rfl rfl (x_assign (v := (Value.int .i64 1)) rfl rfl) ?_
    refine wpR_nil ?_
    refine wpC_ret ?_
    exact ⟨.inl rfl, fun a ha => ⟨_, results_rep1 rfl ha rfl, 1, rfl, h⟩⟩
  · replace h := h.2 hc25
    refine wpC_skip ?_
    refine wpC_seq ?_
    refine wpC_seq ?_
    refine wpC_cut (fun ρ => ρ 1 = (Value.pointer (some (Addr.mk b1 0 none))) ∧ True) ⟨e1, trivial⟩ ?_
    rintro ρ ⟨e1, -⟩
    refine wpC_region ?_
    refine wpR_val (v := (Value.pointer (some ((Addr.mk b1 0 none).add 8)))) (w' := w2) rfl rfl rfl (x_fieldAddr rfl e1 FA_24_8) ?_
    obtain ⟨x26, q26, h⟩ := h
    refine wpR_val (v := (Value.int .i64 x26)) (w' := w2) rfl rfl rfl (x_load1 rfl rfl SH_3 q26) ?_
    refine wpR_enter rfl rfl rfl (x_call (vs := [(Value.int .i64 x26), (Value.int .i64 40), (Value.int .i64 4000)]) rfl rfl (mapl_cons rfl (mapl_cons rfl (mapl_cons rfl mapl_nil))) Try.func25 NN_25 NB_25) (Calls.mono h ?_)
    rintro _ w3 ⟨r27, rfl, h⟩
    refine ⟨_, rfl, ?_⟩
    refine wpR_val (v := (Value.bool (!r27))) (w' := w3) rfl rfl rfl (x_not rfl rfl) ?_
    refine wpR_val (v := (Value.bool (!r27))) (w' := w3) rfl rfl rfl (x_move (v := (Value.bool (!r27))) rfl rfl) ?_
    obtain ⟨J28, h, hk⟩ := h
    refine wpR_joinJ 5 (fun x ρ => ρ 17 = Value.bool x ∧ ρ 1 = (Value.pointer (some (Addr.mk b1 0 none))) ∧ True) (J28) ?_ ?_
    · clear hk
      rcases Bool.eq_false_or_eq_true (!r27) with hc29 | hc29
      · replace h := h.1 hc29
        refine wpR_pass (wantN rfl rfl rfl hc29) rfl rfl ?_
        refine wpR_pass (wantN rfl rfl rfl hc29) rfl rfl ?_
        refine wpR_pass (wantN rfl rfl rfl hc29) rfl rfl ?_
        refine wpR_pass (wantN rfl rfl rfl hc29) rfl rfl ?_
        refine wpR_val (v := (Value.bool true)) (w' := w3) rfl rfl rfl (x_pickT (v := (Value.bool true)) rfl rfl hc29 rfl) ?_
        refine wpR_nil ?_
        exact ⟨true, ⟨rfl, e1, trivial⟩, h⟩
      · replace h := h.2 hc29
        refine wpR_val (v := (Value.pointer (some ((Addr.mk b1 0 none).add 9)))) (w' := w3) (wantG rfl rfl rfl hc29) rfl rfl (x_fieldAddr rfl e1 FA_24_9) ?_
        obtain ⟨x30, q30, h⟩ := h
        refine wpR_val (v := (Value.int .i64 x30)) (w' := w3) (wantG rfl rfl rfl hc29) rfl rfl (x_load1 rfl rfl SH_3 q30) ?_
        refine wpR_enter (wantG rfl rfl rfl hc29) rfl rfl (x_call (vs := [(Value.int .i64 x30), (Value.int .i64 1), (Value.int .i64 20)]) rfl rfl (mapl_cons rfl (mapl_cons rfl (mapl_cons rfl mapl_nil))) Try.func25 NN_25 NB_25) (Calls.mono h ?_)
        rintro _ w4 ⟨r31, rfl, h⟩
        refine ⟨_, rfl, ?_⟩
        refine wpR_val (v := (Value.bool (!r31))) (w' := w4) (wantG rfl rfl rfl hc29) rfl rfl (x_not rfl rfl) ?_
        refine wpR_val (v := (Value.bool (!r31))) (w' := w4) rfl rfl rfl (x_pickF (v := (Value.bool (!r31))) rfl rfl hc29 rfl) ?_
        refine wpR_nil ?_
        exact ⟨!r31, ⟨rfl, e1, trivial⟩, h⟩
    clear h
    rintro c32 ρ w5 ⟨e17, e1, -⟩ h
    replace h := hk c32 w5 h
    clear hk
    refine wpR_val (v := (Value.bool c32)) (w' := w5) rfl rfl rfl (x_move (v := (Value.bool c32)) rfl e17) ?_
    obtain ⟨J33, h, hk⟩ := h
    refine wpR_joinJ 4 (fun x ρ => ρ 22 = Value.bool x ∧ ρ 1 = (Value.pointer (some (Addr.mk b1 0 none))) ∧ True) (fun x w => J33 x ∧ w5 = w) ?_ ?_
    · clear hk
      rcases Bool.eq_false_or_eq_true (c32) with hc34 | hc34
      · replace h := h.1 hc34
        refine wpR_pass (wantN rfl rfl rfl hc34) rfl rfl ?_
        refine wpR_pass (wantN rfl rfl rfl hc34) rfl rfl ?_
        refine wpR_pass (wantN rfl rfl rfl hc34) rfl rfl ?_
        refine wpR_val (v := (Value.bool true)) (w' := w5) rfl rfl rfl (x_pickT (v := (Value.bool true)) rfl rfl hc34 rfl) ?_
        refine wpR_nil ?_
        exact ⟨true, ⟨rfl, e1, trivial⟩, h, rfl⟩
      · replace h := h.2 hc34
        refine wpR_val (v := (Value.pointer (some ((Addr.mk b1 0 none).add 10)))) (w' := w5) (wantG rfl rfl rfl hc34) rfl rfl (x_fieldAddr rfl e1 FA_24_10) ?_
        obtain ⟨x35, q35, h⟩ := h
        refine wpR_val (v := (Value.int .i64 x35)) (w' := w5) (wantG rfl rfl rfl hc34) rfl rfl (x_load1 rfl rfl SH_3 q35) ?_
        refine wpR_val (v := (Value.bool (decide (4 < x35)))) (w' := w5) (wantG rfl rfl rfl hc34) rfl rfl (x_gtr rfl rfl rfl) ?_
        refine wpR_val (v := (Value.bool (decide (4 < x35)))) (w' := w5) rfl rfl rfl (x_pickF (v := (Value.bool (decide (4 < x35)))) rfl rfl hc34 rfl) ?_
        refine wpR_nil ?_
        exact ⟨decide (4 < x35), ⟨rfl, e1, trivial⟩, h, rfl⟩
    clear h
    rintro c36 ρ wj ⟨e22, e1, -⟩ ⟨h, rfl⟩
    replace h := hk c36 h
    clear hk
    refine wpR_val (v := (Value.bool c36)) (w' := w5) rfl rfl rfl (x_move (v := (Value.bool c36)) rfl e22) ?_
    obtain ⟨J37, h, hk⟩ := h
    refine wpR_joinJ 4 (fun x ρ => ρ 27 = Value.bool x ∧ ρ 1 = (Value.pointer (some (Addr.mk b1 0 none))) ∧ True) (fun x w => J37 x ∧ w5 = w) ?_ ?_
    · clear hk
      rcases Bool.eq_false_or_eq_true (c36) with hc38 | hc38
      · replace h := h.1 hc38
        refine wpR_pass (wantN rfl rfl rfl hc38) rfl rfl ?_
        refine wpR_pass (wantN rfl rfl rfl hc38) rfl rfl ?_
        refine wpR_pass (wantN rfl rfl rfl hc38) rfl rfl ?_
        refine wpR_val (v := (Value.bool true)) (w' := w5) rfl rfl rfl (x_pickT (v := (Value.bool true)) rfl rfl hc38 rfl) ?_
        refine wpR_nil ?_
        exact ⟨true, ⟨rfl, e1, trivial⟩, h, rfl⟩
      · replace h := h.2 hc38
        refine wpR_val (v := (Value.pointer (some ((Addr.mk b1 0 none).add 11)))) (w' := w5) (wantG rfl rfl rfl hc38) rfl rfl (x_fieldAddr rfl e1 FA_24_11) ?_
        obtain ⟨x39, q39, h⟩ := h
        refine wpR_val (v := (Value.int .i64 x39)) (w' := w5) (wantG rfl rfl rfl hc38) rfl rfl (x_load1 rfl rfl SH_3 q39) ?_
        refine wpR_val (v := (Value.bool (decide (65536 < x39)))) (w' := w5) (wantG rfl rfl rfl hc38) rfl rfl (x_gtr rfl rfl rfl) ?_
        refine wpR_val (v := (Value.bool (decide (65536 < x39)))) (w' := w5) rfl rfl rfl (x_pickF (v := (Value.bool (decide (65536 < x39)))) rfl rfl hc38 rfl) ?_
        refine wpR_nil ?_
        exact ⟨decide (65536 < x39), ⟨rfl, e1, trivial⟩, h, rfl⟩
    clear h
    rintro c40 ρ wj ⟨e27, e1, -⟩ ⟨h, rfl⟩
    replace h := hk c40 h
    clear hk
    refine wpR_val (v := (Value.bool c40)) (w' := w5) rfl rfl rfl (x_move (v := (Value.bool c40)) rfl e27) ?_
    obtain ⟨J41, h, hk⟩ := h
    refine wpR_joinJ 4 (fun x ρ => ρ 32 = Value.bool x ∧ ρ 1 = (Value.pointer (some (Addr.mk b1 0 none))) ∧ True) (fun x w => J41 x ∧ w5 = w) ?_ ?_
    · clear hk
      rcases Bool.eq_false_or_eq_true (c40) with hc42 | hc42
      · replace h := h.1 hc42
        refine wpR_pass (wantN rfl rfl rfl hc42) rfl rfl ?_
        refine wpR_pass (wantN rfl rfl rfl hc42) rfl rfl ?_
        refine wpR_pass (wantN rfl rfl rfl hc42) rfl rfl ?_
        refine wpR_val (v := (Value.bool true)) (w' := w5) rfl rfl rfl (x_pickT (v := (Value.bool true)) rfl rfl hc42 rfl) ?_
        refine wpR_nil ?_
        exact ⟨true, ⟨rfl, e1, trivial⟩, h, rfl⟩
      · replace h := h.2 hc42
        refine wpR_val (v := (Value.pointer (some ((Addr.mk b1 0 none).add 18)))) (w' := w5) (wantG rfl rfl rfl hc42) rfl rfl (x_fieldAddr rfl e1 FA_24_18) ?_
        obtain ⟨x43, q43, h⟩ := h
        refine wpR_val (v := (Value.int .i64 x43)) (w' := w5) (wantG rfl rfl rfl hc42) rfl rfl (x_load1 rfl rfl SH_3 q43) ?_
        refine wpR_val (v := (Value.bool (decide (x43 < 1)))) (w' := w5) (wantG rfl rfl rfl hc42) rfl rfl (x_lss rfl rfl rfl) ?_
        refine wpR_val (v := (Value.bool (decide (x43 < 1)))) (w' := w5) rfl rfl rfl (x_pickF (v := (Value.bool (decide (x43 < 1)))) rfl rfl hc42 rfl) ?_
        refine wpR_nil ?_
        exact ⟨decide (x43 < 1), ⟨rfl, e1, trivial⟩, h, rfl⟩
    clear h
    rintro c44 ρ wj ⟨e32, e1, -⟩ ⟨h, rfl⟩
    replace h := hk c44 h
    clear hk
    refine wpR_val (v := (Value.bool c44)) (w' := w5) rfl rfl rfl (x_move (v := (Value.bool c44)) rfl e32) ?_
    obtain ⟨J45, h, hk⟩ := h
    refine wpR_joinJ 11 (fun x ρ => ρ 44 = Value.bool x ∧ ρ 1 = (Value.pointer (some (Addr.mk b1 0 none))) ∧ True) (fun x w => J45 x ∧ w5 = w) ?_ ?_
    · clear hk
      rcases Bool.eq_false_or_eq_true (c44) with hc46 | hc46
      · replace h := h.1 hc46
        refine wpR_pass (wantN rfl rfl rfl hc46) rfl rfl ?_
        refine wpR_pass (wantN rfl rfl rfl hc46) rfl rfl ?_
        refine wpR_pass (wantN rfl rfl rfl hc46) rfl rfl ?_
        refine wpR_pass (wantN rfl rfl rfl hc46) rfl rfl ?_
        refine wpR_pass (wantU rfl rfl rfl) rfl rfl ?_
        refine wpR_pass (wantU rfl rfl rfl) rfl rfl ?_
        refine wpR_pass (wantU rfl rfl rfl) rfl rfl ?_
        refine wpR_pass (wantU rfl rfl rfl) rfl rfl ?_
        refine wpR_pass (wantU rfl rfl rfl) rfl rfl ?_
        refine wpR_pass (wantN rfl rfl rfl hc46) rfl rfl ?_
        refine wpR_val (v := (Value.bool true)) (w' := w5) rfl rfl rfl (x_pickT (v := (Value.bool true)) rfl rfl hc46 rfl) ?_
        refine wpR_nil ?_
        exact ⟨true, ⟨rfl, e1, trivial⟩, h, rfl⟩
      · replace h := h.2 hc46
        refine wpR_val (v := (Value.pointer (some ((Addr.mk b1 0 none).add 19)))) (w' := w5) (wantG rfl rfl rfl hc46) rfl rfl (x_fieldAddr rfl e1 FA_24_19) ?_
        obtain ⟨x47, q47, h⟩ := h
        refine wpR_val (v := (Value.int .i64 x47)) (w' := w5) (wantG rfl rfl rfl hc46) rfl rfl (x_load1 rfl rfl SH_3 q47) ?_
        refine wpR_val (v := (Value.bool (!decide (x47 = 0)))) (w' := w5) (wantG rfl rfl rfl hc46) rfl rfl (x_neq rfl rfl rfl) ?_
        refine wpR_val (v := (Value.bool (!decide (x47 = 0)))) (w' := w5) (wantG rfl rfl rfl hc46) rfl rfl (x_move (v := (Value.bool (!decide (x47 = 0)))) rfl rfl) ?_
        obtain ⟨J48, h, hk⟩ := h
        refine wpR_joinJ 6 (fun x ρ => ρ 43 = Value.bool x ∧ ρ 1 = (Value.pointer (some (Addr.mk b1 0 none))) ∧ ρ 33 = (Value.bool c44) ∧ True) (fun x w => J48 x ∧ w5 = w) ?_ ?_
        · clear hk
          rcases Bool.eq_false_or_eq_true (!decide (x47 = 0)) with hc49 | hc49
          · replace h := h.1 hc49
            refine wpR_val (v := (Value.pointer (some ((Addr.mk b1 0 none).add 19)))) (w' := w5) (wantG rfl rfl rfl hc49) rfl rfl (x_fieldAddr rfl e1 FA_24_19) ?_
            obtain ⟨x50, q50, h⟩ := h
            refine wpR_val (v := (Value.int .i64 x50)) (w' := w5) (wantG rfl rfl rfl hc49) rfl rfl (x_load1 rfl rfl SH_3 q50) ?_
            refine wpR_val (v := (Value.pointer (some ((Addr.mk b1 0 none).add 20)))) (w' := w5) (wantG rfl rfl rfl hc49) rfl rfl (x_fieldAddr rfl e1 FA_24_20) ?_
            obtain ⟨x51, q51, h⟩ := h
            refine wpR_val (v := (Value.int .i64 x51)) (w' := w5) (wantG rfl rfl rfl hc49) rfl rfl (x_load1 rfl rfl SH_3 q51) ?_
            refine wpR_val (v := (Value.bool (decide (x51 ≤ x50)))) (w' := w5) (wantG rfl rfl rfl hc49) rfl rfl (x_geq rfl rfl rfl) ?_
            refine wpR_val (v := (Value.bool (decide (x51 ≤ x50)))) (w' := w5) (wantG rfl rfl rfl hc46) rfl rfl (x_pickT (v := (Value.bool (decide (x51 ≤ x50)))) rfl rfl hc49 rfl) ?_
            refine wpR_nil ?_
            exact ⟨decide (x51 ≤ x50), ⟨rfl, e1, rfl, trivial⟩, h, rfl⟩
          · replace h := h.2 hc49
            refine wpR_pass (wantN rfl rfl rfl hc49) rfl rfl ?_
            refine wpR_pass (wantN rfl rfl rfl hc49) rfl rfl ?_
            refine wpR_pass (wantN rfl rfl rfl hc49) rfl rfl ?_
            refine wpR_pass (wantN rfl rfl rfl hc49) rfl rfl ?_
            refine wpR_pass (wantN rfl rfl rfl hc49) rfl rfl ?_
            refine wpR_val (v := (Value.bool false)) (w' := w5) (wantG rfl rfl rfl hc46) rfl rfl (x_pickF (v := (Value.bool false)) rfl rfl hc49 rfl) ?_
            refine wpR_nil ?_
            exact ⟨false, ⟨rfl, e1, rfl, trivial⟩, h, rfl⟩
        clear h
        rintro c52 ρ wj ⟨e43, e1, e33, -⟩ ⟨h, rfl⟩
        replace h := hk c52 h
        clear hk
        refine wpR_val (v := (Value.bool c52)) (w' := w5) rfl rfl rfl (x_pickF (v := (Value.bool c52)) rfl e33 hc46 e43) ?_
        refine wpR_nil ?_
        exact ⟨c52, ⟨rfl, e1, trivial⟩, h, rfl⟩
    clear h
    rintro c53 ρ wj ⟨e44, e1, -⟩ ⟨h, rfl⟩
    replace h := hk c53 h
    clear hk
    refine wpR_val (v := (Value.bool c53)) (w' := w5) rfl rfl rfl (x_move (v := (Value.bool c53)) rfl e44) ?_
    obtain ⟨J54, h, hk⟩ := h
    refine wpR_joinJ 4 (fun x ρ => ρ 49 = Value.bool x ∧ ρ 1 = (Value.pointer (some (Addr.mk b1 0 none))) ∧ True) (J54) ?_ ?_
    · clear hk
      rcases Bool.eq_false_or_eq_true (c53) with hc55 | hc55
      · replace h := h.1 hc55
        refine wpR_pass (wantN rfl rfl rfl hc55) rfl rfl ?_
        refine wpR_pass (wantN rfl rfl rfl hc55) rfl rfl ?_
        refine wpR_pass (wantN rfl rfl rfl hc55) rfl rfl ?_
        refine wpR_val (v := (Value.bool true)) (w' := w5) rfl rfl rfl (x_pickT (v := (Value.bool true)) rfl rfl hc55 rfl) ?_
        refine wpR_nil ?_
        exact ⟨true, ⟨rfl, e1, trivial⟩, h⟩
      · replace h := h.2 hc55
        obtain ⟨x56, q56, x57, q57, x58, q58, x59, q59, x60, q60, x61, q61, x62, q62, x63, q63, x64, q64, x65, q65, x66, q66, x67, q67, x68, q68, x69, q69, x70, q70, x71, q71, x72, q72, x73, q73, x74, q74, x75, q75, x76, q76, x77, q77, h⟩ := h
        refine wpR_val (v := (V23 x56 x57 x58 x59 x60 x61 x62 x63 x64 x65 x66 x67 x68 x69 x70 x71 x72 x73 x74 x75 x76 x77)) (w' := w5) (wantG rfl rfl rfl hc55) rfl rfl (x_loadN (S23 x56 x57 x58 x59 x60 x61 x62 x63 x64 x65 x66 x67 x68 x69 x70 x71 x72 x73 x74 x75 x76 x77) rfl e1 SH_24 (K23 ⟨q56, q57, q58, q59, q60, q61, q62, q63, q64, q65, q66, q67, q68, q69, q70, q71, q72, q73, q74, q75, q76, q77⟩)) ?_
        refine wpR_enter (wantG rfl rfl rfl hc55) rfl rfl (x_call (vs := [(V23 x56 x57 x58 x59 x60 x61 x62 x63 x64 x65 x66 x67 x68 x69 x70 x71 x72 x73 x74 x75 x76 x77)]) rfl rfl (mapl_cons rfl mapl_nil) Try.func26 NN_26 NB_26) (Calls.mono h ?_)
        rintro _ w6 ⟨r78, rfl, h⟩
        refine ⟨_, rfl, ?_⟩
        refine wpR_val (v := (Value.bool (!r78))) (w' := w6) (wantG rfl rfl rfl hc55) rfl rfl (x_not rfl rfl) ?_
        refine wpR_val (v := (Value.bool (!r78))) (w' := w6) rfl rfl rfl (x_pickF (v := (Value.bool (!r78))) rfl rfl hc55 rfl) ?_
        refine wpR_nil ?_
        exact ⟨!r78, ⟨rfl, e1, trivial⟩, h⟩
    clear h
    rintro c79 ρ w7 ⟨e49, e1, -⟩ h
    replace h := hk c79 w7 h
    clear hk
    refine wpR_nil ?_
    refine wpC_cond (b := c79) e49 (fun hc80 => ?_) (fun hc80 => ?_)
    · replace h := h.1 hc80
      refine wpC_seq ?_
      refine wpC_region ?_
      refine wpR_val (v := (Value.int .i64 3)) (w' := w7) rfl rfl rfl (x_assign (v := (Value.int .i64 3)) rfl rfl) ?_
      refine wpR_nil ?_
      refine wpC_ret ?_
      exact ⟨.inl rfl, fun a ha => ⟨_, results_rep1 rfl ha rfl, 3, rfl, h⟩⟩
    · replace h := h.2 hc80
      refine wpC_skip ?_
      refine wpC_seq ?_
      refine wpC_seq ?_
      refine wpC_region ?_
      refine wpR_val (v := (Value.pointer (some ((Addr.mk b1 0 none).add 12)))) (w' := w7) rfl rfl rfl (x_fieldAddr rfl e1 FA_24_12) ?_
      obtain ⟨x81, q81, h⟩ := h
      refine wpR_val (v := (Sl.v x81)) (w' := w7) rfl rfl rfl (x_load1 rfl rfl SH_22 q81) ?_
      refine wpR_val (v := (Value.int .i64 (x81.len : Int))) (w' := w7) rfl rfl rfl (x_lenS (s := x81) rfl rfl isSliceT_22) ?_
      refine wpR_val (v := (Value.int .i64 0)) (w' := w7) rfl rfl rfl (x_move (v := (Value.int .i64 0)) rfl rfl) ?_
      refine wpR_nil ?_
      refine wpC_block ?_
      obtain ⟨I82, μ82, hI82, hr82⟩ := h
      refine wpC_loop (fun (x : Int) ρ => ρ 53 = (Value.int .i64 x) ∧ ρ 1 = (Value.pointer (some (Addr.mk b1 0 none))) ∧ ρ 51 = (Sl.v x81) ∧ ρ 52 = (Value.int .i64 (x81.len : Int)) ∧ True) I82 μ82 0 ⟨rfl, e1, rfl, rfl, trivial⟩ hI82 ?_
      rintro l82 ρ w8 ⟨e53, e1, e51, e52, -⟩ h
      replace h := hr82 l82 w8 h
      clear hr82 hI82
      refine wpC_seq ?_
      refine wpC_region ?_
      refine wpR_val (v := (Value.bool (decide (l82 < (x81.len : Int))))) (w' := w8) rfl rfl rfl (x_lss rfl e53 e52) ?_
      refine wpR_nil ?_
      refine wpC_seq ?_
      refine wpC_cond (b := decide (l82 < (x81.len : Int))) rfl (fun hc83 => ?_) (fun hc83 => ?_)
      · replace h := h.1 hc83
        refine wpC_skip ?_
        refine wpC_seq ?_
        refine wpC_block ?_
        refine wpC_seq ?_
        refine wpC_cut (fun ρ => ρ 1 = (Value.pointer (some (Addr.mk b1 0 none))) ∧ ρ 51 = (Sl.v x81) ∧ ρ 52 = (Value.int .i64 (x81.len : Int)) ∧ ρ 53 = (Value.int .i64 l82) ∧ True) ⟨e1, e51, e52, e53, trivial⟩ ?_
        rintro ρ ⟨e1, e51, e52, e53, -⟩
        refine wpC_region ?_
        refine wpR_val (v := (Value.int .i64 l82)) (w' := w8) rfl rfl rfl (x_move (v := (Value.int .i64 l82)) rfl e53) ?_
        obtain ⟨q84, z84, r84, h⟩ := h
        generalize hp84 : z84.add ((l82 : Int).toNat * 1) = p84 at h
        refine wpR_val (v := (Value.pointer (some p84))) (w' := w8) rfl rfl rfl ((x_indexAddr (s := x81) rfl e51 e53 ES_22 q84 r84).trans (by rw [hp84])) ?_
        obtain ⟨x85, q85, h⟩ := h
        refine wpR_val (v := (Value.string x85)) (w' := w8) rfl rfl rfl (x_load1 rfl rfl SH_9 q85) ?_
        refine wpR_val (v := (Value.int .i64 l82)) (w' := w8) rfl rfl rfl (x_assign (v := (Value.int .i64 l82)) rfl rfl) ?_
        refine wpR_val (v := (Value.string x85)) (w' := w8) rfl rfl rfl (x_assign (v := (Value.string x85)) rfl rfl) ?_
        refine wpR_nil ?_
        refine wpC_seq ?_
        refine wpC_cut (fun ρ => ρ 1 = (Value.pointer (some (Addr.mk b1 0 none))) ∧ ρ 3 = (Value.int .i64 l82) ∧ ρ 4 = (Value.string x85) ∧ ρ 51 = (Sl.v x81) ∧ ρ 52 = (Value.int .i64 (x81.len : Int)) ∧ ρ 53 = (Value.int .i64 l82) ∧ True) ⟨e1, rfl, rfl, e51, e52, e53, trivial⟩ ?_
        rintro ρ ⟨e1, e3, e4, e51, e52, e53, -⟩
        refine wpC_region ?_
        refine wpR_val (v := (Value.pointer (some ((Addr.mk b1 0 none).add 12)))) (w' := w8) rfl rfl rfl (x_fieldAddr rfl e1 FA_24_12) ?_
        obtain ⟨x86, q86, h⟩ := h
        refine wpR_val (v := (Sl.v x86)) (w' := w8) rfl rfl rfl (x_load1 rfl rfl SH_22 q86) ?_
        refine wpR_val (v := (Value.int .i64 l82)) (w' := w8) rfl rfl rfl (x_move (v := (Value.int .i64 l82)) rfl e3) ?_
        obtain ⟨r87, w9, q87, h⟩ := h
        refine wpR_val (v := (Sl.v r87)) (w' := w9) rfl rfl rfl (x_sliceAt rfl rfl rfl (congrArg some rfl) rfl q87) ?_
        refine wpR_val (v := (Value.string x85)) (w' := w9) rfl rfl rfl (x_move (v := (Value.string x85)) rfl e4) ?_
        refine wpR_enter rfl rfl rfl (x_call (vs := [(Sl.v r87), (Value.string x85)]) rfl rfl (mapl_cons rfl (mapl_cons rfl mapl_nil)) Try.func27 NN_27 NB_27) (Calls.mono h ?_)
        rintro _ w10 ⟨r88, rfl, h⟩
        refine ⟨_, rfl, ?_⟩
        refine wpR_nil ?_
        refine wpC_cond (b := r88) rfl (fun hc89 => ?_) (fun hc89 => ?_)
        · replace h := h.1 hc89
          refine wpC_seq ?_
          refine wpC_cut (fun ρ => True) trivial ?_
          rintro ρ -
          refine wpC_region ?_
          refine wpR_val (v := (Value.int .i64 5)) (w' := w10) rfl rfl rfl (x_assign (v := (Value.int .i64 5)) rfl rfl) ?_
          refine wpR_nil ?_
          refine wpC_ret ?_
          exact ⟨.inl rfl, fun a ha => ⟨_, results_rep1 rfl ha rfl, 5, rfl, h⟩⟩
        · replace h := h.2 hc89
          refine wpC_skip ?_
          refine wpC_cut (fun ρ => ρ 1 = (Value.pointer (some (Addr.mk b1 0 none))) ∧ ρ 51 = (Sl.v x81) ∧ ρ 52 = (Value.int .i64 (x81.len : Int)) ∧ ρ 53 = (Value.int .i64 l82) ∧ True) ⟨e1, e51, e52, e53, trivial⟩ ?_
          rintro ρ ⟨e1, e51, e52, e53, -⟩
          refine wpC_region ?_
          refine wpR_val (v := (Value.int .i64 (IntKind.i64.wrap (l82 + 1)))) (w' := w10) rfl rfl rfl (x_add rfl e53 rfl) ?_
          refine wpR_val (v := (Value.int .i64 (IntKind.i64.wrap (l82 + 1)))) (w' := w10) rfl rfl rfl (x_move (v := (Value.int .i64 (IntKind.i64.wrap (l82 + 1)))) rfl rfl) ?_
          refine wpR_nil ?_
          exact ⟨IntKind.i64.wrap (l82 + 1), ⟨rfl, e1, e51, e52, trivial⟩, h⟩
      · replace h := h.2 hc83
        refine wpC_exit ?_
        refine wpC_seq ?_
        refine wpC_cut (fun ρ => True) trivial ?_
        rintro ρ -
        refine wpC_region ?_
        refine wpR_val (v := (Value.int .i64 0)) (w' := w8) rfl rfl rfl (x_assign (v := (Value.int .i64 0)) rfl rfl) ?_
        refine wpR_nil ?_
        refine wpC_ret ?_
        exact ⟨.inl rfl, fun a ha => ⟨_, results_rep1 rfl ha rfl, 0, rfl, h⟩⟩

/-- profile.AtMost -/
def F12 (p0_0 : ByteArray) (p0_1 : Int) (p0_2 : Int) (p0_3 : Int) (p0_4 : Bool) (p0_5 : Int) (p0_6 : Bool) (p0_7 : Bool) (p0_8 : Int) (p0_9 : Int) (p0_10 : Int) (p0_11 : Int) (p0_12 : Sl) (p0_13 : Int) (p0_14 : Int) (p0_15 : Int) (p0_16 : Int) (p0_17 : Bool) (p0_18 : Int) (p0_19 : Int) (p0_20 : Int) (p0_21 : Int) (p1_0 : ByteArray) (p1_1 : Int) (p1_2 : Int) (p1_3 : Int) (p1_4 : Bool) (p1_5 : Int) (p1_6 : Bool) (p1_7 : Bool) (p1_8 : Int) (p1_9 : Int) (p1_10 : Int) (p1_11 : Int) (p1_12 : Sl) (p1_13 : Int) (p1_14 : Int) (p1_15 : Int) (p1_16 : Int) (p1_17 : Bool) (p1_18 : Int) (p1_19 : Int) (p1_20 : Int) (p1_21 : Int) (w0 : World) (K : Bool → World → Prop) : Prop :=
  nw 24 (A23 p0_0 p0_1 p0_2 p0_3 p0_4 p0_5 p0_6 p0_7 p0_8 p0_9 p0_10 p0_11 p0_12 p0_13 p0_14 p0_15 p0_16 p0_17 p0_18 p0_19 p0_20 p0_21) w0 fun b1 w1 =>
  nw 24 (A23 p1_0 p1_1 p1_2 p1_3 p1_4 p1_5 p1_6 p1_7 p1_8 p1_9 p1_10 p1_11 p1_12 p1_13 p1_14 p1_15 p1_16 p1_17 p1_18 p1_19 p1_20 p1_21) w1 fun b2 w2 =>
  ld (Value.int .i64) ((Addr.mk b1 0 none).add 1) w2 fun x3 =>
  ld (Value.int .i64) ((Addr.mk b2 0 none).add 1) w2 fun x4 =>
  jp (fun J5 => cnd (decide (x3 ≤ x4))
    (
    ld (Value.int .i64) ((Addr.mk b1 0 none).add 3) w2 fun x7 =>
    ld (Value.int .i64) ((Addr.mk b2 0 none).add 3) w2 fun x8 =>
    J5 (decide (x7 ≤ x8))
    )
    (
    J5 false
    ))
  fun c9 =>
  jp (fun J10 => cnd (c9)
    (
    ld (Value.int .i64) ((Addr.mk b1 0 none).add 5) w2 fun x12 =>
    ld (Value.int .i64) ((Addr.mk b2 0 none).add 5) w2 fun x13 =>
    J10 (decide (x12 ≤ x13))
    )
    (
    J10 false
    ))
  fun c14 =>
  jp (fun J15 => cnd (c14)
    (
    ld (Value.int .i64) ((Addr.mk b1 0 none).add 8) w2 fun x17 =>
    ld (Value.int .i64) ((Addr.mk b2 0 none).add 8) w2 fun x18 =>
    J15 (decide (x17 ≤ x18))
    )
    (
    J15 false
    ))
  fun c19 =>
  jp (fun J20 => cnd (c19)
    (
    ld (Value.int .i64) ((Addr.mk b1 0 none).add 9) w2 fun x22 =>
    ld (Value.int .i64) ((Addr.mk b2 0 none).add 9) w2 fun x23 =>
    J20 (decide (x22 ≤ x23))
    )
    (
    J20 false
    ))
  fun c24 =>
  jp (fun J25 => cnd (c24)
    (
    ld (Value.int .i64) ((Addr.mk b1 0 none).add 10) w2 fun x27 =>
    ld (Value.int .i64) ((Addr.mk b2 0 none).add 10) w2 fun x28 =>
    J25 (decide (x27 ≤ x28))
    )
    (
    J25 false
    ))
  fun c29 =>
  jp (fun J30 => cnd (c29)
    (
    ld (Value.int .i64) ((Addr.mk b1 0 none).add 11) w2 fun x32 =>
    ld (Value.int .i64) ((Addr.mk b2 0 none).add 11) w2 fun x33 =>
    J30 (decide (x32 ≤ x33))
    )
    (
    J30 false
    ))
  fun c34 =>
  jp (fun J35 => cnd (c34)
    (
    ld (Value.int .i64) ((Addr.mk b1 0 none).add 16) w2 fun x37 =>
    ld (Value.int .i64) ((Addr.mk b2 0 none).add 16) w2 fun x38 =>
    J35 (decide (x37 ≤ x38))
    )
    (
    J35 false
    ))
  fun c39 =>
  ld Value.bool ((Addr.mk b1 0 none).add 4) w2 fun x40 =>
  jp (fun J41 => cnd (!x40)
    (
    J41 true
    )
    (
    ld Value.bool ((Addr.mk b2 0 none).add 4) w2 fun x43 =>
    J41 x43
    ))
  fun c44 =>
  jp (fun J45 => cnd (c44)
    (
    ld Value.bool ((Addr.mk b1 0 none).add 6) w2 fun x47 =>
    jp (fun J48 => cnd (!x47)
      (
      J48 true
      )
      (
      ld Value.bool ((Addr.mk b2 0 none).add 6) w2 fun x50 =>
      J48 x50
      ))
    fun c51 =>
    J45 c51
    )
    (
    J45 false
    ))
  fun c52 =>
  jp (fun J53 => cnd (c52)
    (
    ld Value.bool ((Addr.mk b1 0 none).add 7) w2 fun x55 =>
    jp (fun J56 => cnd (!x55)
      (
      J56 true
      )
      (
      ld Value.bool ((Addr.mk b2 0 none).add 7) w2 fun x58 =>
      J56 x58
      ))
    fun c59 =>
    J53 c59
    )
    (
    J53 false
    ))
  fun c60 =>
  ld (Value.int .i64) ((Addr.mk b1 0 none).add 1) w2 fun x61 =>
  jp (fun J62 => cnd (decide (x61 = 0))
    (
    J62 true
    )
    (
    ld (Value.int .i64) ((Addr.mk b2 0 none).add 2) w2 fun x64 =>
    J62 (decide (x64 = 0))
    ))
  fun c65 =>
  jp (fun J66 => cnd (c65)
    (
    J66 true
    )
    (
    ld (Value.int .i64) ((Addr.mk b1 0 none).add 2) w2 fun x68 =>
    jp (fun J69 => cnd (!decide (x68 = 0))
      (
      ld (Value.int .i64) ((Addr.mk b1 0 none).add 2) w2 fun x71 =>
      ld (Value.int .i64) ((Addr.mk b2 0 none).add 2) w2 fun x72 =>
      J69 (decide (x71 ≤ x72))
      )
      (
      J69 false
      ))
    fun c73 =>
    J66 c73
    ))
  fun c74 =>
  jn (fun J79 => cnd ((c39 && c60) && c74)
    (
    ld Sl.v ((Addr.mk b1 0 none).add 12) w2 fun x81 =>
    callC Try.prog 30 #[(Sl.v x81), (Value.func (.func 29) #[] (List.toArray [(Value.pointer (some (Addr.mk b2 0 none)))]))] (fun (r : Bool) => (Value.bool r)) w2 fun r82 w3 =>
    J79 (!r82) w3
    )
    (
    J79 false w2
    ))
  fun c83 w4 =>
  K c83 w4
set_option maxRecDepth 100000 in
theorem D12 (p0_0 : ByteArray) (p0_1 : Int) (p0_2 : Int) (p0_3 : Int) (p0_4 : Bool) (p0_5 : Int) (p0_6 : Bool) (p0_7 : Bool) (p0_8 : Int) (p0_9 : Int) (p0_10 : Int) (p0_11 : Int) (p0_12 : Sl) (p0_13 : Int) (p0_14 : Int) (p0_15 : Int) (p0_16 : Int) (p0_17 : Bool) (p0_18 : Int) (p0_19 : Int) (p0_20 : Int) (p0_21 : Int) (p1_0 : ByteArray) (p1_1 : Int) (p1_2 : Int) (p1_3 : Int) (p1_4 : Bool) (p1_5 : Int) (p1_6 : Bool) (p1_7 : Bool) (p1_8 : Int) (p1_9 : Int) (p1_10 : Int) (p1_11 : Int) (p1_12 : Sl) (p1_13 : Int) (p1_14 : Int) (p1_15 : Int) (p1_16 : Int) (p1_17 : Bool) (p1_18 : Int) (p1_19 : Int) (p1_20 : Int) (p1_21 : Int) (w0 : World) (K : Bool → World → Prop) (h : F12 p0_0 p0_1 p0_2 p0_3 p0_4 p0_5 p0_6 p0_7 p0_8 p0_9 p0_10 p0_11 p0_12 p0_13 p0_14 p0_15 p0_16 p0_17 p0_18 p0_19 p0_20 p0_21 p1_0 p1_1 p1_2 p1_3 p1_4 p1_5 p1_6 p1_7 p1_8 p1_9 p1_10 p1_11 p1_12 p1_13 p1_14 p1_15 p1_16 p1_17 p1_18 p1_19 p1_20 p1_21 w0 K) : callC Try.prog 12 #[(V23 p0_0 p0_1 p0_2 p0_3 p0_4 p0_5 p0_6 p0_7 p0_8 p0_9 p0_10 p0_11 p0_12 p0_13 p0_14 p0_15 p0_16 p0_17 p0_18 p0_19 p0_20 p0_21), (V23 p1_0 p1_1 p1_2 p1_3 p1_4 p1_5 p1_6 p1_7 p1_8 p1_9 p1_10 p1_11 p1_12 p1_13 p1_14 p1_15 p1_16 p1_17 p1_18 p1_19 p1_20 p1_21)] (fun (r : Bool) => (Value.bool r)) w0 K := by
  unfold F12 at h
  refine calls_of_wpC Try.func12 rfl 123 rfl (by simp) ?_
  intro ρ hρ
  have e0 : ρ 0 = (V23 p0_0 p0_1 p0_2 p0_3 p0_4 p0_5 p0_6 p0_7 p0_8 p0_9 p0_10 p0_11 p0_12 p0_13 p0_14 p0_15 p0_16 p0_17 p0_18 p0_19 p0_20 p0_21) := hρ 0
  have e1 : ρ 1 = (V23 p1_0 p1_1 p1_2 p1_3 p1_4 p1_5 p1_6 p1_7 p1_8 p1_9 p1_10 p1_11 p1_12 p1_13 p1_14 p1_15 p1_16 p1_17 p1_18 p1_19 p1_20 p1_21) := hρ 1
  clear hρ
  refine wpC_seq ?_
  refine wpC_region ?_
  obtain ⟨b1, hb1⟩ : ∃ u, u = w0.heap.size := ⟨_, rfl⟩
  obtain ⟨w1, hw1⟩ : ∃ u, u = w0.alloc (.cells (A23 p0_0 p0_1 p0_2 p0_3 p0_4 p0_5 p0_6 p0_7 p0_8 p0_9 p0_10 p0_11 p0_12 p0_13 p0_14 p0_15 p0_16 p0_17 p0_18 p0_19 p0_20 p0_21) 24) := ⟨_, rfl⟩
  replace h := h b1 w1 hb1 hw1
  refine wpR_val (v := (Value.pointer (some (Addr.mk b1 0 none)))) (w' := w1) rfl rfl rfl ((x_box (v := (V23 p0_0 p0_1 p0_2 p0_3 p0_4 p0_5 p0_6 p0_7 p0_8 p0_9 p0_10 p0_11 p0_12 p0_13 p0_14 p0_15 p0_16 p0_17 p0_18 p0_19 p0_20 p0_21)) rfl e0).trans (by rw [hb1, hw1]; rfl)) ?_
  obtain ⟨b2, hb2⟩ : ∃ u, u = w1.heap.size := ⟨_, rfl⟩
  obtain ⟨w2, hw2⟩ : ∃ u, u = w1.alloc (.cells (A23 p1_0 p1_1 p1_2 p1_3 p1_4 p1_5 p1_6 p1_7 p1_8 p1_9 p1_10 p1_11 p1_12 p1_13 p1_14 p1_15 p1_16 p1_17 p1_18 p1_19 p1_20 p1_21) 24) := ⟨_, rfl⟩
  replace h := h b2 w2 hb2 hw2
  refine wpR_val (v := (Value.pointer (some (Addr.mk b2 0 none)))) (w' := w2) rfl rfl rfl ((x_box (v := (V23 p1_0 p1_1 p1_2 p1_3 p1_4 p1_5 p1_6 p1_7 p1_8 p1_9 p1_10 p1_11 p1_12 p1_13 p1_14 p1_15 p1_16 p1_17 p1_18 p1_19 p1_20 p1_21)) rfl e1).trans (by rw [hb2, hw2]; rfl)) ?_
  refine wpR_val (v := (Value.bool false)) (w' := w2) rfl rfl rfl (x_assign (v := (Value.bool false)) rfl rfl) ?_
  refine wpR_nil ?_
  refine wpC_seq ?_
  refine wpC_cut (fun ρ => ρ 2 = (Value.pointer (some (Addr.mk b1 0 none))) ∧ ρ 3 = (Value.pointer (some (Addr.mk b2 0 none))) ∧ True) ⟨rfl, rfl, trivial⟩ ?_
  rintro ρ ⟨e2, e3, -⟩
  refine wpC_region ?_
  refine wpR_val (v := (Value.pointer (some ((Addr.mk b1 0 none).add 1)))) (w' := w2) rfl rfl rfl (x_fieldAddr rfl e2 FA_24_1) ?_
  obtain ⟨x3, q3, h⟩ := h
  refine wpR_val (v := (Value.int .i64 x3)) (w' := w2) rfl rfl rfl (x_load1 rfl rfl SH_3 q3) ?_
  refine wpR_val (v := (Value.pointer (some ((Addr.mk b2 0 none).add 1)))) (w' := w2) rfl rfl rfl (x_fieldAddr rfl e3 FA_24_1) ?_
  obtain ⟨x4, q4, h⟩ := h
  refine wpR_val (v := (Value.int .i64 x4)) (w' := w2) rfl rfl rfl (x_load1 rfl rfl SH_3 q4) ?_
  refine wpR_val (v := (Value.bool (decide (x3 ≤ x4)))) (w' := w2) rfl rfl rfl (x_leq rfl rfl rfl) ?_
  refine wpR_val (v := (Value.bool (decide (x3 ≤ x4)))) (w' := w2) rfl rfl rfl (x_move (v := (Value.bool (decide (x3 ≤ x4)))) rfl rfl) ?_
  obtain ⟨J5, h, hk⟩ := h
  refine wpR_joinJ 6 (fun x ρ => ρ 20 = Value.bool x ∧ ρ 2 = (Value.pointer (some (Addr.mk b1 0 none))) ∧ ρ 3 = (Value.pointer (some (Addr.mk b2 0 none))) ∧ True) (fun x w => J5 x ∧ w2 = w) ?_ ?_
  · clear hk
    rcases Bool.eq_false_or_eq_true (decide (x3 ≤ x4)) with hc6 | hc6
    · replace h := h.1 hc6
      refine wpR_val (v := (Value.pointer (some ((Addr.mk b1 0 none).add 3)))) (w' := w2) (wantG rfl rfl rfl hc6) rfl rfl (x_fieldAddr rfl e2 FA_24_3) ?_
      obtain ⟨x7, q7, h⟩ := h
      refine wpR_val (v := (Value.int .i64 x7)) (w' := w2) (wantG rfl rfl rfl hc6) rfl rfl (x_load1 rfl rfl SH_3 q7) ?_
      refine wpR_val (v := (Value.pointer (some ((Addr.mk b2 0 none).add 3)))) (w' := w2) (wantG rfl rfl rfl hc6) rfl rfl (x_fieldAddr rfl e3 FA_24_3) ?_
      obtain ⟨x8, q8, h⟩ := h
      refine wpR_val (v := (Value.int .i64 x8)) (w' := w2) (wantG rfl rfl rfl hc6) rfl rfl (x_load1 rfl rfl SH_3 q8) ?_
      refine wpR_val (v := (Value.bool (decide (x7 ≤ x8)))) (w' := w2) (wantG rfl rfl rfl hc6) rfl rfl (x_leq rfl rfl rfl) ?_
      refine wpR_val (v := (Value.bool (decide (x7 ≤ x8)))) (w' := w2) rfl rfl rfl (x_pickT (v := (Value.bool (decide (x7 ≤ x8)))) rfl rfl hc6 rfl) ?_
      refine wpR_nil ?_
      exact ⟨decide (x7 ≤ x8), ⟨rfl, e2, e3, trivial⟩, h, rfl⟩
    · replace h := h.2 hc6
      refine wpR_pass (wantN rfl rfl rfl hc6) rfl rfl ?_
      refine wpR_pass (wantN rfl rfl rfl hc6) rfl rfl ?_
      refine wpR_pass (wantN rfl rfl rfl hc6) rfl rfl ?_
      refine wpR_pass (wantN rfl rfl rfl hc6) rfl rfl ?_
      refine wpR_pass (wantN rfl rfl rfl hc6) rfl rfl ?_
      refine wpR_val (v := (Value.bool false)) (w' := w2) rfl rfl rfl (x_pickF (v := (Value.bool false)) rfl rfl hc6 rfl) ?_
      refine wpR_nil ?_
      exact ⟨false, ⟨rfl, e2, e3, trivial⟩, h, rfl⟩
  clear h
  rintro c9 ρ wj ⟨e20, e2, e3, -⟩ ⟨h, rfl⟩
  replace h := hk c9 h
  clear hk
  refine wpR_val (v := (Value.bool c9)) (w' := w2) rfl rfl rfl (x_move (v := (Value.bool c9)) rfl e20) ?_
  obtain ⟨J10, h, hk⟩ := h
  refine wpR_joinJ 6 (fun x ρ => ρ 27 = Value.bool x ∧ ρ 2 = (Value.pointer (some (Addr.mk b1 0 none))) ∧ ρ 3 = (Value.pointer (some (Addr.mk b2 0 none))) ∧ True) (fun x w => J10 x ∧ w2 = w) ?_ ?_
  · clear hk
    rcases Bool.eq_false_or_eq_true (c9) with hc11 | hc11
    · replace h := h.1 hc11
      refine wpR_val (v := (Value.pointer (some ((Addr.mk b1 0 none).add 5)))) (w' := w2) (wantG rfl rfl rfl hc11) rfl rfl (x_fieldAddr rfl e2 FA_24_5) ?_
      obtain ⟨x12, q12, h⟩ := h
      refine wpR_val (v := (Value.int .i64 x12)) (w' := w2) (wantG rfl rfl rfl hc11) rfl rfl (x_load1 rfl rfl SH_3 q12) ?_
      refine wpR_val (v := (Value.pointer (some ((Addr.mk b2 0 none).add 5)))) (w' := w2) (wantG rfl rfl rfl hc11) rfl rfl (x_fieldAddr rfl e3 FA_24_5) ?_
      obtain ⟨x13, q13, h⟩ := h
      refine wpR_val (v := (Value.int .i64 x13)) (w' := w2) (wantG rfl rfl rfl hc11) rfl rfl (x_load1 rfl rfl SH_3 q13) ?_
      refine wpR_val (v := (Value.bool (decide (x12 ≤ x13)))) (w' := w2) (wantG rfl rfl rfl hc11) rfl rfl (x_leq rfl rfl rfl) ?_
      refine wpR_val (v := (Value.bool (decide (x12 ≤ x13)))) (w' := w2) rfl rfl rfl (x_pickT (v := (Value.bool (decide (x12 ≤ x13)))) rfl rfl hc11 rfl) ?_
      refine wpR_nil ?_
      exact ⟨decide (x12 ≤ x13), ⟨rfl, e2, e3, trivial⟩, h, rfl⟩
    · replace h := h.2 hc11
      refine wpR_pass (wantN rfl rfl rfl hc11) rfl rfl ?_
      refine wpR_pass (wantN rfl rfl rfl hc11) rfl rfl ?_
      refine wpR_pass (wantN rfl rfl rfl hc11) rfl rfl ?_
      refine wpR_pass (wantN rfl rfl rfl hc11) rfl rfl ?_
      refine wpR_pass (wantN rfl rfl rfl hc11) rfl rfl ?_
      refine wpR_val (v := (Value.bool false)) (w' := w2) rfl rfl rfl (x_pickF (v := (Value.bool false)) rfl rfl hc11 rfl) ?_
      refine wpR_nil ?_
      exact ⟨false, ⟨rfl, e2, e3, trivial⟩, h, rfl⟩
  clear h
  rintro c14 ρ wj ⟨e27, e2, e3, -⟩ ⟨h, rfl⟩
  replace h := hk c14 h
  clear hk
  refine wpR_val (v := (Value.bool c14)) (w' := w2) rfl rfl rfl (x_move (v := (Value.bool c14)) rfl e27) ?_
  obtain ⟨J15, h, hk⟩ := h
  refine wpR_joinJ 6 (fun x ρ => ρ 34 = Value.bool x ∧ ρ 2 = (Value.pointer (some (Addr.mk b1 0 none))) ∧ ρ 3 = (Value.pointer (some (Addr.mk b2 0 none))) ∧ True) (fun x w => J15 x ∧ w2 = w) ?_ ?_
  · clear hk
    rcases Bool.eq_false_or_eq_true (c14) with hc16 | hc16
    · replace h := h.1 hc16
      refine wpR_val (v := (Value.pointer (some ((Addr.mk b1 0 none).add 8)))) (w' := w2) (wantG rfl rfl rfl hc16) rfl rfl (x_fieldAddr rfl e2 FA_24_8) ?_
      obtain ⟨x17, q17, h⟩ := h
      refine wpR_val (v := (Value.int .i64 x17)) (w' := w2) (wantG rfl rfl rfl hc16) rfl rfl (x_load1 rfl rfl SH_3 q17) ?_
      refine wpR_val (v := (Value.pointer (some ((Addr.mk b2 0 none).add 8)))) (w' := w2) (wantG rfl rfl rfl hc16) rfl rfl (x_fieldAddr rfl e3 FA_24_8) ?_
      obtain ⟨x18, q18, h⟩ := h
      refine wpR_val (v := (Value.int .i64 x18)) (w' := w2) (wantG rfl rfl rfl hc16) rfl rfl (x_load1 rfl rfl SH_3 q18) ?_
      refine wpR_val (v := (Value.bool (decide (x17 ≤ x18)))) (w' := w2) (wantG rfl rfl rfl hc16) rfl rfl (x_leq rfl rfl rfl) ?_
      refine wpR_val (v := (Value.bool (decide (x17 ≤ x18)))) (w' := w2) rfl rfl rfl (x_pickT (v := (Value.bool (decide (x17 ≤ x18)))) rfl rfl hc16 rfl) ?_
      refine wpR_nil ?_
      exact ⟨decide (x17 ≤ x18), ⟨rfl, e2, e3, trivial⟩, h, rfl⟩
    · replace h := h.2 hc16
      refine wpR_pass (wantN rfl rfl rfl hc16) rfl rfl ?_
      refine wpR_pass (wantN rfl rfl rfl hc16) rfl rfl ?_
      refine wpR_pass (wantN rfl rfl rfl hc16) rfl rfl ?_
      refine wpR_pass (wantN rfl rfl rfl hc16) rfl rfl ?_
      refine wpR_pass (wantN rfl rfl rfl hc16) rfl rfl ?_
      refine wpR_val (v := (Value.bool false)) (w' := w2) rfl rfl rfl (x_pickF (v := (Value.bool false)) rfl rfl hc16 rfl) ?_
      refine wpR_nil ?_
      exact ⟨false, ⟨rfl, e2, e3, trivial⟩, h, rfl⟩
  clear h
  rintro c19 ρ wj ⟨e34, e2, e3, -⟩ ⟨h, rfl⟩
  replace h := hk c19 h
  clear hk
  refine wpR_val (v := (Value.bool c19)) (w' := w2) rfl rfl rfl (x_move (v := (Value.bool c19)) rfl e34) ?_
  obtain ⟨J20, h, hk⟩ := h
  refine wpR_joinJ 6 (fun x ρ => ρ 41 = Value.bool x ∧ ρ 2 = (Value.pointer (some (Addr.mk b1 0 none))) ∧ ρ 3 = (Value.pointer (some (Addr.mk b2 0 none))) ∧ True) (fun x w => J20 x ∧ w2 = w) ?_ ?_
  · clear hk
    rcases Bool.eq_false_or_eq_true (c19) with hc21 | hc21
    · replace h := h.1 hc21
      refine wpR_val (v := (Value.pointer (some ((Addr.mk b1 0 none).add 9)))) (w' := w2) (wantG rfl rfl rfl hc21) rfl rfl (x_fieldAddr rfl e2 FA_24_9) ?_
      obtain ⟨x22, q22, h⟩ := h
      refine wpR_val (v := (Value.int .i64 x22)) (w' := w2) (wantG rfl rfl rfl hc21) rfl rfl (x_load1 rfl rfl SH_3 q22) ?_
      refine wpR_val (v := (Value.pointer (some ((Addr.mk b2 0 none).add 9)))) (w' := w2) (wantG rfl rfl rfl hc21) rfl rfl (x_fieldAddr rfl e3 FA_24_9) ?_
      obtain ⟨x23, q23, h⟩ := h
      refine wpR_val (v := (Value.int .i64 x23)) (w' := w2) (wantG rfl rfl rfl hc21) rfl rfl (x_load1 rfl rfl SH_3 q23) ?_
      refine wpR_val (v := (Value.bool (decide (x22 ≤ x23)))) (w' := w2) (wantG rfl rfl rfl hc21) rfl rfl (x_leq rfl rfl rfl) ?_
      refine wpR_val (v := (Value.bool (decide (x22 ≤ x23)))) (w' := w2) rfl rfl rfl (x_pickT (v := (Value.bool (decide (x22 ≤ x23)))) rfl rfl hc21 rfl) ?_
      refine wpR_nil ?_
      exact ⟨decide (x22 ≤ x23), ⟨rfl, e2, e3, trivial⟩, h, rfl⟩
    · replace h := h.2 hc21
      refine wpR_pass (wantN rfl rfl rfl hc21) rfl rfl ?_
      refine wpR_pass (wantN rfl rfl rfl hc21) rfl rfl ?_
      refine wpR_pass (wantN rfl rfl rfl hc21) rfl rfl ?_
      refine wpR_pass (wantN rfl rfl rfl hc21) rfl rfl ?_
      refine wpR_pass (wantN rfl rfl rfl hc21) rfl rfl ?_
      refine wpR_val (v := (Value.bool false)) (w' := w2) rfl rfl rfl (x_pickF (v := (Value.bool false)) rfl rfl hc21 rfl) ?_
      refine wpR_nil ?_
      exact ⟨false, ⟨rfl, e2, e3, trivial⟩, h, rfl⟩
  clear h
  rintro c24 ρ wj ⟨e41, e2, e3, -⟩ ⟨h, rfl⟩
  replace h := hk c24 h
  clear hk
  refine wpR_val (v := (Value.bool c24)) (w' := w2) rfl rfl rfl (x_move (v := (Value.bool c24)) rfl e41) ?_
  obtain ⟨J25, h, hk⟩ := h
  refine wpR_joinJ 6 (fun x ρ => ρ 48 = Value.bool x ∧ ρ 2 = (Value.pointer (some (Addr.mk b1 0 none))) ∧ ρ 3 = (Value.pointer (some (Addr.mk b2 0 none))) ∧ True) (fun x w => J25 x ∧ w2 = w) ?_ ?_
  · clear hk
    rcases Bool.eq_false_or_eq_true (c24) with hc26 | hc26
    · replace h := h.1 hc26
      refine wpR_val (v := (Value.pointer (some ((Addr.mk b1 0 none).add 10)))) (w' := w2) (wantG rfl rfl rfl hc26) rfl rfl (x_fieldAddr rfl e2 FA_24_10) ?_
      obtain ⟨x27, q27, h⟩ := h
      refine wpR_val (v := (Value.int .i64 x27)) (w' := w2) (wantG rfl rfl rfl hc26) rfl rfl (x_load1 rfl rfl SH_3 q27) ?_
      refine wpR_val (v := (Value.pointer (some ((Addr.mk b2 0 none).add 10)))) (w' := w2) (wantG rfl rfl rfl hc26) rfl rfl (x_fieldAddr rfl e3 FA_24_10) ?_
      obtain ⟨x28, q28, h⟩ := h
      refine wpR_val (v := (Value.int .i64 x28)) (w' := w2) (wantG rfl rfl rfl hc26) rfl rfl (x_load1 rfl rfl SH_3 q28) ?_
      refine wpR_val (v := (Value.bool (decide (x27 ≤ x28)))) (w' := w2) (wantG rfl rfl rfl hc26) rfl rfl (x_leq rfl rfl rfl) ?_
      refine wpR_val (v := (Value.bool (decide (x27 ≤ x28)))) (w' := w2) rfl rfl rfl (x_pickT (v := (Value.bool (decide (x27 ≤ x28)))) rfl rfl hc26 rfl) ?_
      refine wpR_nil ?_
      exact ⟨decide (x27 ≤ x28), ⟨rfl, e2, e3, trivial⟩, h, rfl⟩
    · replace h := h.2 hc26
      refine wpR_pass (wantN rfl rfl rfl hc26) rfl rfl ?_
      refine wpR_pass (wantN rfl rfl rfl hc26) rfl rfl ?_
      refine wpR_pass (wantN rfl rfl rfl hc26) rfl rfl ?_
      refine wpR_pass (wantN rfl rfl rfl hc26) rfl rfl ?_
      refine wpR_pass (wantN rfl rfl rfl hc26) rfl rfl ?_
      refine wpR_val (v := (Value.bool false)) (w' := w2) rfl rfl rfl (x_pickF (v := (Value.bool false)) rfl rfl hc26 rfl) ?_
      refine wpR_nil ?_
      exact ⟨false, ⟨rfl, e2, e3, trivial⟩, h, rfl⟩
  clear h
  rintro c29 ρ wj ⟨e48, e2, e3, -⟩ ⟨h, rfl⟩
  replace h := hk c29 h
  clear hk
  refine wpR_val (v := (Value.bool c29)) (w' := w2) rfl rfl rfl (x_move (v := (Value.bool c29)) rfl e48) ?_
  obtain ⟨J30, h, hk⟩ := h
  refine wpR_joinJ 6 (fun x ρ => ρ 55 = Value.bool x ∧ ρ 2 = (Value.pointer (some (Addr.mk b1 0 none))) ∧ ρ 3 = (Value.pointer (some (Addr.mk b2 0 none))) ∧ True) (fun x w => J30 x ∧ w2 = w) ?_ ?_
  · clear hk
    rcases Bool.eq_false_or_eq_true (c29) with hc31 | hc31
    · replace h := h.1 hc31
      refine wpR_val (v := (Value.pointer (some ((Addr.mk b1 0 none).add 11)))) (w' := w2) (wantG rfl rfl rfl hc31) rfl rfl (x_fieldAddr rfl e2 FA_24_11) ?_
      obtain ⟨x32, q32, h⟩ := h
      refine wpR_val (v := (Value.int .i64 x32)) (w' := w2) (wantG rfl rfl rfl hc31) rfl rfl (x_load1 rfl rfl SH_3 q32) ?_
      refine wpR_val (v := (Value.pointer (some ((Addr.mk b2 0 none).add 11)))) (w' := w2) (wantG rfl rfl rfl hc31) rfl rfl (x_fieldAddr rfl e3 FA_24_11) ?_
      obtain ⟨x33, q33, h⟩ := h
      refine wpR_val (v := (Value.int .i64 x33)) (w' := w2) (wantG rfl rfl rfl hc31) rfl rfl (x_load1 rfl rfl SH_3 q33) ?_
      refine wpR_val (v := (Value.bool (decide (x32 ≤ x33)))) (w' := w2) (wantG rfl rfl rfl hc31) rfl rfl (x_leq rfl rfl rfl) ?_
      refine wpR_val (v := (Value.bool (decide (x32 ≤ x33)))) (w' := w2) rfl rfl rfl (x_pickT (v := (Value.bool (decide (x32 ≤ x33)))) rfl rfl hc31 rfl) ?_
      refine wpR_nil ?_
      exact ⟨decide (x32 ≤ x33), ⟨rfl, e2, e3, trivial⟩, h, rfl⟩
    · replace h := h.2 hc31
      refine wpR_pass (wantN rfl rfl rfl hc31) rfl rfl ?_
      refine wpR_pass (wantN rfl rfl rfl hc31) rfl rfl ?_
      refine wpR_pass (wantN rfl rfl rfl hc31) rfl rfl ?_
      refine wpR_pass (wantN rfl rfl rfl hc31) rfl rfl ?_
      refine wpR_pass (wantN rfl rfl rfl hc31) rfl rfl ?_
      refine wpR_val (v := (Value.bool false)) (w' := w2) rfl rfl rfl (x_pickF (v := (Value.bool false)) rfl rfl hc31 rfl) ?_
      refine wpR_nil ?_
      exact ⟨false, ⟨rfl, e2, e3, trivial⟩, h, rfl⟩
  clear h
  rintro c34 ρ wj ⟨e55, e2, e3, -⟩ ⟨h, rfl⟩
  replace h := hk c34 h
  clear hk
  refine wpR_val (v := (Value.bool c34)) (w' := w2) rfl rfl rfl (x_move (v := (Value.bool c34)) rfl e55) ?_
  obtain ⟨J35, h, hk⟩ := h
  refine wpR_joinJ 6 (fun x ρ => ρ 62 = Value.bool x ∧ ρ 2 = (Value.pointer (some (Addr.mk b1 0 none))) ∧ ρ 3 = (Value.pointer (some (Addr.mk b2 0 none))) ∧ True) (fun x w => J35 x ∧ w2 = w) ?_ ?_
  · clear hk
    rcases Bool.eq_false_or_eq_true (c34) with hc36 | hc36
    · replace h := h.1 hc36
      refine wpR_val (v := (Value.pointer (some ((Addr.mk b1 0 none).add 16)))) (w' := w2) (wantG rfl rfl rfl hc36) rfl rfl (x_fieldAddr rfl e2 FA_24_16) ?_
      obtain ⟨x37, q37, h⟩ := h
      refine wpR_val (v := (Value.int .i64 x37)) (w' := w2) (wantG rfl rfl rfl hc36) rfl rfl (x_load1 rfl rfl SH_3 q37) ?_
      refine wpR_val (v := (Value.pointer (some ((Addr.mk b2 0 none).add 16)))) (w' := w2) (wantG rfl rfl rfl hc36) rfl rfl (x_fieldAddr rfl e3 FA_24_16) ?_
      obtain ⟨x38, q38, h⟩ := h
      refine wpR_val (v := (Value.int .i64 x38)) (w' := w2) (wantG rfl rfl rfl hc36) rfl rfl (x_load1 rfl rfl SH_3 q38) ?_
      refine wpR_val (v := (Value.bool (decide (x37 ≤ x38)))) (w' := w2) (wantG rfl rfl rfl hc36) rfl rfl (x_leq rfl rfl rfl) ?_
      refine wpR_val (v := (Value.bool (decide (x37 ≤ x38)))) (w' := w2) rfl rfl rfl (x_pickT (v := (Value.bool (decide (x37 ≤ x38)))) rfl rfl hc36 rfl) ?_
      refine wpR_nil ?_
      exact ⟨decide (x37 ≤ x38), ⟨rfl, e2, e3, trivial⟩, h, rfl⟩
    · replace h := h.2 hc36
      refine wpR_pass (wantN rfl rfl rfl hc36) rfl rfl ?_
      refine wpR_pass (wantN rfl rfl rfl hc36) rfl rfl ?_
      refine wpR_pass (wantN rfl rfl rfl hc36) rfl rfl ?_
      refine wpR_pass (wantN rfl rfl rfl hc36) rfl rfl ?_
      refine wpR_pass (wantN rfl rfl rfl hc36) rfl rfl ?_
      refine wpR_val (v := (Value.bool false)) (w' := w2) rfl rfl rfl (x_pickF (v := (Value.bool false)) rfl rfl hc36 rfl) ?_
      refine wpR_nil ?_
      exact ⟨false, ⟨rfl, e2, e3, trivial⟩, h, rfl⟩
  clear h
  rintro c39 ρ wj ⟨e62, e2, e3, -⟩ ⟨h, rfl⟩
  replace h := hk c39 h
  clear hk
  refine wpR_val (v := (Value.bool c39)) (w' := w2) rfl rfl rfl (x_assign (v := (Value.bool c39)) rfl e62) ?_
  refine wpR_nil ?_
  refine wpC_seq ?_
  refine wpC_cut (fun ρ => ρ 2 = (Value.pointer (some (Addr.mk b1 0 none))) ∧ ρ 3 = (Value.pointer (some (Addr.mk b2 0 none))) ∧ ρ 5 = (Value.bool c39) ∧ True) ⟨e2, e3, rfl, trivial⟩ ?_
  rintro ρ ⟨e2, e3, e5, -⟩
  refine wpC_region ?_
  refine wpR_val (v := (Value.pointer (some ((Addr.mk b1 0 none).add 4)))) (w' := w2) rfl rfl rfl (x_fieldAddr rfl e2 FA_24_4) ?_
  obtain ⟨x40, q40, h⟩ := h
  refine wpR_val (v := (Value.bool x40)) (w' := w2) rfl rfl rfl (x_load1 rfl rfl SH_4 q40) ?_
  refine wpR_val (v := (Value.bool (!x40))) (w' := w2) rfl rfl rfl (x_not rfl rfl) ?_
  refine wpR_val (v := (Value.bool (!x40))) (w' := w2) rfl rfl rfl (x_move (v := (Value.bool (!x40))) rfl rfl) ?_
  obtain ⟨J41, h, hk⟩ := h
  refine wpR_joinJ 3 (fun x ρ => ρ 69 = Value.bool x ∧ ρ 2 = (Value.pointer (some (Addr.mk b1 0 none))) ∧ ρ 3 = (Value.pointer (some (Addr.mk b2 0 none))) ∧ ρ 5 = (Value.bool c39) ∧ True) (fun x w => J41 x ∧ w2 = w) ?_ ?_
  · clear hk
    rcases Bool.eq_false_or_eq_true (!x40) with hc42 | hc42
    · replace h := h.1 hc42
      refine wpR_pass (wantN rfl rfl rfl hc42) rfl rfl ?_
      refine wpR_pass (wantN rfl rfl rfl hc42) rfl rfl ?_
      refine wpR_val (v := (Value.bool true)) (w' := w2) rfl rfl rfl (x_pickT (v := (Value.bool true)) rfl rfl hc42 rfl) ?_
      refine wpR_nil ?_
      exact ⟨true, ⟨rfl, e2, e3, e5, trivial⟩, h, rfl⟩
    · replace h := h.2 hc42
      refine wpR_val (v := (Value.pointer (some ((Addr.mk b2 0 none).add 4)))) (w' := w2) (wantG rfl rfl rfl hc42) rfl rfl (x_fieldAddr rfl e3 FA_24_4) ?_
      obtain ⟨x43, q43, h⟩ := h
      refine wpR_val (v := (Value.bool x43)) (w' := w2) (wantG rfl rfl rfl hc42) rfl rfl (x_load1 rfl rfl SH_4 q43) ?_
      refine wpR_val (v := (Value.bool x43)) (w' := w2) rfl rfl rfl (x_pickF (v := (Value.bool x43)) rfl rfl hc42 rfl) ?_
      refine wpR_nil ?_
      exact ⟨x43, ⟨rfl, e2, e3, e5, trivial⟩, h, rfl⟩
  clear h
  rintro c44 ρ wj ⟨e69, e2, e3, e5, -⟩ ⟨h, rfl⟩
  replace h := hk c44 h
  clear hk
  refine wpR_val (v := (Value.bool c44)) (w' := w2) rfl rfl rfl (x_move (v := (Value.bool c44)) rfl e69) ?_
  obtain ⟨J45, h, hk⟩ := h
  refine wpR_joinJ 8 (fun x ρ => ρ 78 = Value.bool x ∧ ρ 2 = (Value.pointer (some (Addr.mk b1 0 none))) ∧ ρ 3 = (Value.pointer (some (Addr.mk b2 0 none))) ∧ ρ 5 = (Value.bool c39) ∧ True) (fun x w => J45 x ∧ w2 = w) ?_ ?_
  · clear hk
    rcases Bool.eq_false_or_eq_true (c44) with hc46 | hc46
    · replace h := h.1 hc46
      refine wpR_val (v := (Value.pointer (some ((Addr.mk b1 0 none).add 6)))) (w' := w2) (wantG rfl rfl rfl hc46) rfl rfl (x_fieldAddr rfl e2 FA_24_6) ?_
      obtain ⟨x47, q47, h⟩ := h
      refine wpR_val (v := (Value.bool x47)) (w' := w2) (wantG rfl rfl rfl hc46) rfl rfl (x_load1 rfl rfl SH_4 q47) ?_
      refine wpR_val (v := (Value.bool (!x47))) (w' := w2) (wantG rfl rfl rfl hc46) rfl rfl (x_not rfl rfl) ?_
      refine wpR_val (v := (Value.bool (!x47))) (w' := w2) (wantG rfl rfl rfl hc46) rfl rfl (x_move (v := (Value.bool (!x47))) rfl rfl) ?_
      obtain ⟨J48, h, hk⟩ := h
      refine wpR_joinJ 3 (fun x ρ => ρ 77 = Value.bool x ∧ ρ 2 = (Value.pointer (some (Addr.mk b1 0 none))) ∧ ρ 3 = (Value.pointer (some (Addr.mk b2 0 none))) ∧ ρ 5 = (Value.bool c39) ∧ ρ 70 = (Value.bool c44) ∧ True) (fun x w => J48 x ∧ w2 = w) ?_ ?_
      · clear hk
        rcases Bool.eq_false_or_eq_true (!x47) with hc49 | hc49
        · replace h := h.1 hc49
          refine wpR_pass (wantN rfl rfl rfl hc49) rfl rfl ?_
          refine wpR_pass (wantN rfl rfl rfl hc49) rfl rfl ?_
          refine wpR_val (v := (Value.bool true)) (w' := w2) (wantG rfl rfl rfl hc46) rfl rfl (x_pickT (v := (Value.bool true)) rfl rfl hc49 rfl) ?_
          refine wpR_nil ?_
          exact ⟨true, ⟨rfl, e2, e3, e5, rfl, trivial⟩, h, rfl⟩
        · replace h := h.2 hc49
          refine wpR_val (v := (Value.pointer (some ((Addr.mk b2 0 none).add 6)))) (w' := w2) (wantG rfl rfl rfl hc49) rfl rfl (x_fieldAddr rfl e3 FA_24_6) ?_
          obtain ⟨x50, q50, h⟩ := h
          refine wpR_val (v := (Value.bool x50)) (w' := w2) (wantG rfl rfl rfl hc49) rfl rfl (x_load1 rfl rfl SH_4 q50) ?_
          refine wpR_val (v := (Value.bool x50)) (w' := w2) (wantG rfl rfl rfl hc46) rfl rfl (x_pickF (v := (Value.bool x50)) rfl rfl hc49 rfl) ?_
          refine wpR_nil ?_
          exact ⟨x50, ⟨rfl, e2, e3, e5, rfl, trivial⟩, h, rfl⟩
      clear h
      rintro c51 ρ wj ⟨e77, e2, e3, e5, e70, -⟩ ⟨h, rfl⟩
      replace h := hk c51 h
      clear hk
      refine wpR_val (v := (Value.bool c51)) (w' := w2) rfl rfl rfl (x_pickT (v := (Value.bool c51)) rfl e70 hc46 e77) ?_
      refine wpR_nil ?_
      exact ⟨c51, ⟨rfl, e2, e3, e5, trivial⟩, h, rfl⟩
    · replace h := h.2 hc46
      refine wpR_pass (wantN rfl rfl rfl hc46) rfl rfl ?_
      refine wpR_pass (wantN rfl rfl rfl hc46) rfl rfl ?_
      refine wpR_pass (wantN rfl rfl rfl hc46) rfl rfl ?_
      refine wpR_pass (wantN rfl rfl rfl hc46) rfl rfl ?_
      refine wpR_pass (wantU rfl rfl rfl) rfl rfl ?_
      refine wpR_pass (wantU rfl rfl rfl) rfl rfl ?_
      refine wpR_pass (wantN rfl rfl rfl hc46) rfl rfl ?_
      refine wpR_val (v := (Value.bool false)) (w' := w2) rfl rfl rfl (x_pickF (v := (Value.bool false)) rfl rfl hc46 rfl) ?_
      refine wpR_nil ?_
      exact ⟨false, ⟨rfl, e2, e3, e5, trivial⟩, h, rfl⟩
  clear h
  rintro c52 ρ wj ⟨e78, e2, e3, e5, -⟩ ⟨h, rfl⟩
  replace h := hk c52 h
  clear hk
  refine wpR_val (v := (Value.bool c52)) (w' := w2) rfl rfl rfl (x_move (v := (Value.bool c52)) rfl e78) ?_
  obtain ⟨J53, h, hk⟩ := h
  refine wpR_joinJ 8 (fun x ρ => ρ 87 = Value.bool x ∧ ρ 2 = (Value.pointer (some (Addr.mk b1 0 none))) ∧ ρ 3 = (Value.pointer (some (Addr.mk b2 0 none))) ∧ ρ 5 = (Value.bool c39) ∧ True) (fun x w => J53 x ∧ w2 = w) ?_ ?_
  · clear hk
    rcases Bool.eq_false_or_eq_true (c52) with hc54 | hc54
    · replace h := h.1 hc54
      refine wpR_val (v := (Value.pointer (some ((Addr.mk b1 0 none).add 7)))) (w' := w2) (wantG rfl rfl rfl hc54) rfl rfl (x_fieldAddr rfl e2 FA_24_7) ?_
      obtain ⟨x55, q55, h⟩ := h
      refine wpR_val (v := (Value.bool x55)) (w' := w2) (wantG rfl rfl rfl hc54) rfl rfl (x_load1 rfl rfl SH_4 q55) ?_
      refine wpR_val (v := (Value.bool (!x55))) (w' := w2) (wantG rfl rfl rfl hc54) rfl rfl (x_not rfl rfl) ?_
      refine wpR_val (v := (Value.bool (!x55))) (w' := w2) (wantG rfl rfl rfl hc54) rfl rfl (x_move (v := (Value.bool (!x55))) rfl rfl) ?_
      obtain ⟨J56, h, hk⟩ := h
      refine wpR_joinJ 3 (fun x ρ => ρ 86 = Value.bool x ∧ ρ 2 = (Value.pointer (some (Addr.mk b1 0 none))) ∧ ρ 3 = (Value.pointer (some (Addr.mk b2 0 none))) ∧ ρ 5 = (Value.bool c39) ∧ ρ 79 = (Value.bool c52) ∧ True) (fun x w => J56 x ∧ w2 = w) ?_ ?_
      · clear hk
        rcases Bool.eq_false_or_eq_true (!x55) with hc57 | hc57
        · replace h := h.1 hc57
          refine wpR_pass (wantN rfl rfl rfl hc57) rfl rfl ?_
          refine wpR_pass (wantN rfl rfl rfl hc57) rfl rfl ?_
          refine wpR_val (v := (Value.bool true)) (w' := w2) (wantG rfl rfl rfl hc54) rfl rfl (x_pickT (v := (Value.bool true)) rfl rfl hc57 rfl) ?_
          refine wpR_nil ?_
          exact ⟨true, ⟨rfl, e2, e3, e5, rfl, trivial⟩, h, rfl⟩
        · replace h := h.2 hc57
          refine wpR_val (v := (Value.pointer (some ((Addr.mk b2 0 none).add 7)))) (w' := w2) (wantG rfl rfl rfl hc57) rfl rfl (x_fieldAddr rfl e3 FA_24_7) ?_
          obtain ⟨x58, q58, h⟩ := h
          refine wpR_val (v := (Value.bool x58)) (w' := w2) (wantG rfl rfl rfl hc57) rfl rfl (x_load1 rfl rfl SH_4 q58) ?_
          refine wpR_val (v := (Value.bool x58)) (w' := w2) (wantG rfl rfl rfl hc54) rfl rfl (x_pickF (v := (Value.bool x58)) rfl rfl hc57 rfl) ?_
          refine wpR_nil ?_
          exact ⟨x58, ⟨rfl, e2, e3, e5, rfl, trivial⟩, h, rfl⟩
      clear h
      rintro c59 ρ wj ⟨e86, e2, e3, e5, e79, -⟩ ⟨h, rfl⟩
      replace h := hk c59 h
      clear hk
      refine wpR_val (v := (Value.bool c59)) (w' := w2) rfl rfl rfl (x_pickT (v := (Value.bool c59)) rfl e79 hc54 e86) ?_
      refine wpR_nil ?_
      exact ⟨c59, ⟨rfl, e2, e3, e5, trivial⟩, h, rfl⟩
    · replace h := h.2 hc54
      refine wpR_pass (wantN rfl rfl rfl hc54) rfl rfl ?_
      refine wpR_pass (wantN rfl rfl rfl hc54) rfl rfl ?_
      refine wpR_pass (wantN rfl rfl rfl hc54) rfl rfl ?_
      refine wpR_pass (wantN rfl rfl rfl hc54) rfl rfl ?_
      refine wpR_pass (wantU rfl rfl rfl) rfl rfl ?_
      refine wpR_pass (wantU rfl rfl rfl) rfl rfl ?_
      refine wpR_pass (wantN rfl rfl rfl hc54) rfl rfl ?_
      refine wpR_val (v := (Value.bool false)) (w' := w2) rfl rfl rfl (x_pickF (v := (Value.bool false)) rfl rfl hc54 rfl) ?_
      refine wpR_nil ?_
      exact ⟨false, ⟨rfl, e2, e3, e5, trivial⟩, h, rfl⟩
  clear h
  rintro c60 ρ wj ⟨e87, e2, e3, e5, -⟩ ⟨h, rfl⟩
  replace h := hk c60 h
  clear hk
  refine wpR_val (v := (Value.bool c60)) (w' := w2) rfl rfl rfl (x_assign (v := (Value.bool c60)) rfl e87) ?_
  refine wpR_nil ?_
  refine wpC_seq ?_
  refine wpC_cut (fun ρ => ρ 2 = (Value.pointer (some (Addr.mk b1 0 none))) ∧ ρ 3 = (Value.pointer (some (Addr.mk b2 0 none))) ∧ ρ 5 = (Value.bool c39) ∧ ρ 6 = (Value.bool c60) ∧ True) ⟨e2, e3, e5, rfl, trivial⟩ ?_
  rintro ρ ⟨e2, e3, e5, e6, -⟩
  refine wpC_region ?_
  refine wpR_val (v := (Value.pointer (some ((Addr.mk b1 0 none).add 1)))) (w' := w2) rfl rfl rfl (x_fieldAddr rfl e2 FA_24_1) ?_
  obtain ⟨x61, q61, h⟩ := h
  refine wpR_val (v := (Value.int .i64 x61)) (w' := w2) rfl rfl rfl (x_load1 rfl rfl SH_3 q61) ?_
  refine wpR_val (v := (Value.bool (decide (x61 = 0)))) (w' := w2) rfl rfl rfl (x_eql rfl rfl rfl) ?_
  refine wpR_val (v := (Value.bool (decide (x61 = 0)))) (w' := w2) rfl rfl rfl (x_move (v := (Value.bool (decide (x61 = 0)))) rfl rfl) ?_
  obtain ⟨J62, h, hk⟩ := h
  refine wpR_joinJ 4 (fun x ρ => ρ 95 = Value.bool x ∧ ρ 2 = (Value.pointer (some (Addr.mk b1 0 none))) ∧ ρ 3 = (Value.pointer (some (Addr.mk b2 0 none))) ∧ ρ 5 = (Value.bool c39) ∧ ρ 6 = (Value.bool c60) ∧ True) (fun x w => J62 x ∧ w2 = w) ?_ ?_
  · clear hk
    rcases Bool.eq_false_or_eq_true (decide (x61 = 0)) with hc63 | hc63
    · replace h := h.1 hc63
      refine wpR_pass (wantN rfl rfl rfl hc63) rfl rfl ?_
      refine wpR_pass (wantN rfl rfl rfl hc63) rfl rfl ?_
      refine wpR_pass (wantN rfl rfl rfl hc63) rfl rfl ?_
      refine wpR_val (v := (Value.bool true)) (w' := w2) rfl rfl rfl (x_pickT (v := (Value.bool true)) rfl rfl hc63 rfl) ?_
      refine wpR_nil ?_
      exact ⟨true, ⟨rfl, e2, e3, e5, e6, trivial⟩, h, rfl⟩
    · replace h := h.2 hc63
      refine wpR_val (v := (Value.pointer (some ((Addr.mk b2 0 none).add 2)))) (w' := w2) (wantG rfl rfl rfl hc63) rfl rfl (x_fieldAddr rfl e3 FA_24_2) ?_
      obtain ⟨x64, q64, h⟩ := h
      refine wpR_val (v := (Value.int .i64 x64)) (w' := w2) (wantG rfl rfl rfl hc63) rfl rfl (x_load1 rfl rfl SH_3 q64) ?_
      refine wpR_val (v := (Value.bool (decide (x64 = 0)))) (w' := w2) (wantG rfl rfl rfl hc63) rfl rfl (x_eql rfl rfl rfl) ?_
      refine wpR_val (v := (Value.bool (decide (x64 = 0)))) (w' := w2) rfl rfl rfl (x_pickF (v := (Value.bool (decide (x64 = 0)))) rfl rfl hc63 rfl) ?_
      refine wpR_nil ?_
      exact ⟨decide (x64 = 0), ⟨rfl, e2, e3, e5, e6, trivial⟩, h, rfl⟩
  clear h
  rintro c65 ρ wj ⟨e95, e2, e3, e5, e6, -⟩ ⟨h, rfl⟩
  replace h := hk c65 h
  clear hk
  refine wpR_val (v := (Value.bool c65)) (w' := w2) rfl rfl rfl (x_move (v := (Value.bool c65)) rfl e95) ?_
  obtain ⟨J66, h, hk⟩ := h
  refine wpR_joinJ 11 (fun x ρ => ρ 107 = Value.bool x ∧ ρ 2 = (Value.pointer (some (Addr.mk b1 0 none))) ∧ ρ 3 = (Value.pointer (some (Addr.mk b2 0 none))) ∧ ρ 5 = (Value.bool c39) ∧ ρ 6 = (Value.bool c60) ∧ True) (fun x w => J66 x ∧ w2 = w) ?_ ?_
  · clear hk
    rcases Bool.eq_false_or_eq_true (c65) with hc67 | hc67
    · replace h := h.1 hc67
      refine wpR_pass (wantN rfl rfl rfl hc67) rfl rfl ?_
      refine wpR_pass (wantN rfl rfl rfl hc67) rfl rfl ?_
      refine wpR_pass (wantN rfl rfl rfl hc67) rfl rfl ?_
      refine wpR_pass (wantN rfl rfl rfl hc67) rfl rfl ?_
      refine wpR_pass (wantU rfl rfl rfl) rfl rfl ?_
      refine wpR_pass (wantU rfl rfl rfl) rfl rfl ?_
      refine wpR_pass (wantU rfl rfl rfl) rfl rfl ?_
      refine wpR_pass (wantU rfl rfl rfl) rfl rfl ?_
      refine wpR_pass (wantU rfl rfl rfl) rfl rfl ?_
      refine wpR_pass (wantN rfl rfl rfl hc67) rfl rfl ?_
      refine wpR_val (v := (Value.bool true)) (w' := w2) rfl rfl rfl (x_pickT (v := (Value.bool true)) rfl rfl hc67 rfl) ?_
      refine wpR_nil ?_
      exact ⟨true, ⟨rfl, e2, e3, e5, e6, trivial⟩, h, rfl⟩
    · replace h := h.2 hc67
      refine wpR_val (v := (Value.pointer (some ((Addr.mk b1 0 none).add 2)))) (w' := w2) (wantG rfl rfl rfl hc67) rfl rfl (x_fieldAddr rfl e2 FA_24_2) ?_
      obtain ⟨x68, q68, h⟩ := h
      refine wpR_val (v := (Value.int .i64 x68)) (w' := w2) (wantG rfl rfl rfl hc67) rfl rfl (x_load1 rfl rfl SH_3 q68) ?_
      refine wpR_val (v := (Value.bool (!decide (x68 = 0)))) (w' := w2) (wantG rfl rfl rfl hc67) rfl rfl (x_neq rfl rfl rfl) ?_
      refine wpR_val (v := (Value.bool (!decide (x68 = 0)))) (w' := w2) (wantG rfl rfl rfl hc67) rfl rfl (x_move (v := (Value.bool (!decide (x68 = 0)))) rfl rfl) ?_
      obtain ⟨J69, h, hk⟩ := h
      refine wpR_joinJ 6 (fun x ρ => ρ 106 = Value.bool x ∧ ρ 2 = (Value.pointer (some (Addr.mk b1 0 none))) ∧ ρ 3 = (Value.pointer (some (Addr.mk b2 0 none))) ∧ ρ 5 = (Value.bool c39) ∧ ρ 6 = (Value.bool c60) ∧ ρ 96 = (Value.bool c65) ∧ True) (fun x w => J69 x ∧ w2 = w) ?_ ?_
      · clear hk
        rcases Bool.eq_false_or_eq_true (!decide (x68 = 0)) with hc70 | hc70
        · replace h := h.1 hc70
          refine wpR_val (v := (Value.pointer (some ((Addr.mk b1 0 none).add 2)))) (w' := w2) (wantG rfl rfl rfl hc70) rfl rfl (x_fieldAddr rfl e2 FA_24_2) ?_
          obtain ⟨x71, q71, h⟩ := h
          refine wpR_val (v := (Value.int .i64 x71)) (w' := w2) (wantG rfl rfl rfl hc70) rfl rfl (x_load1 rfl rfl SH_3 q71) ?_
          refine wpR_val (v := (Value.pointer (some ((Addr.mk b2 0 none).add 2)))) (w' := w2) (wantG rfl rfl rfl hc70) rfl rfl (x_fieldAddr rfl e3 FA_24_2) ?_
          obtain ⟨x72, q72, h⟩ := h
          refine wpR_val (v := (Value.int .i64 x72)) (w' := w2) (wantG rfl rfl rfl hc70) rfl rfl (x_load1 rfl rfl SH_3 q72) ?_
          refine wpR_val (v := (Value.bool (decide (x71 ≤ x72)))) (w' := w2) (wantG rfl rfl rfl hc70) rfl rfl (x_leq rfl rfl rfl) ?_
          refine wpR_val (v := (Value.bool (decide (x71 ≤ x72)))) (w' := w2) (wantG rfl rfl rfl hc67) rfl rfl (x_pickT (v := (Value.bool (decide (x71 ≤ x72)))) rfl rfl hc70 rfl) ?_
          refine wpR_nil ?_
          exact ⟨decide (x71 ≤ x72), ⟨rfl, e2, e3, e5, e6, rfl, trivial⟩, h, rfl⟩
        · replace h := h.2 hc70
          refine wpR_pass (wantN rfl rfl rfl hc70) rfl rfl ?_
          refine wpR_pass (wantN rfl rfl rfl hc70) rfl rfl ?_
          refine wpR_pass (wantN rfl rfl rfl hc70) rfl rfl ?_
          refine wpR_pass (wantN rfl rfl rfl hc70) rfl rfl ?_
          refine wpR_pass (wantN rfl rfl rfl hc70) rfl rfl ?_
          refine wpR_val (v := (Value.bool false)) (w' := w2) (wantG rfl rfl rfl hc67) rfl rfl (x_pickF (v := (Value.bool false)) rfl rfl hc70 rfl) ?_
          refine wpR_nil ?_
          exact ⟨false, ⟨rfl, e2, e3, e5, e6, rfl, trivial⟩, h, rfl⟩
      clear h
      rintro c73 ρ wj ⟨e106, e2, e3, e5, e6, e96, -⟩ ⟨h, rfl⟩
      replace h := hk c73 h
      clear hk
      refine wpR_val (v := (Value.bool c73)) (w' := w2) rfl rfl rfl (x_pickF (v := (Value.bool c73)) rfl e96 hc67 e106) ?_
      refine wpR_nil ?_
      exact ⟨c73, ⟨rfl, e2, e3, e5, e6, trivial⟩, h, rfl⟩
  clear h
  rintro c74 ρ wj ⟨e107, e2, e3, e5, e6, -⟩ ⟨h, rfl⟩
  replace h := hk c74 h
  clear hk
  refine wpR_val (v := (Value.bool c74)) (w' := w2) rfl rfl rfl (x_assign (v := (Value.bool c74)) rfl e107) ?_
  refine wpR_nil ?_
  refine wpC_seq ?_
  refine wpC_cut (fun ρ => ρ 2 = (Value.pointer (some (Addr.mk b1 0 none))) ∧ ρ 3 = (Value.pointer (some (Addr.mk b2 0 none))) ∧ ρ 5 = (Value.bool c39) ∧ ρ 6 = (Value.bool c60) ∧ ρ 7 = (Value.bool c74) ∧ True) ⟨e2, e3, e5, e6, rfl, trivial⟩ ?_
  rintro ρ ⟨e2, e3, e5, e6, e7, -⟩
  refine wpC_region ?_
  refine wpR_val (v := (Value.func (.func 29) #[] (List.toArray [(Value.pointer (some (Addr.mk b2 0 none)))]))) (w' := w2) rfl rfl rfl (x_makeFunc (vs := [(Value.pointer (some (Addr.mk b2 0 none)))]) rfl (mapl_cons e3 mapl_nil)) ?_
  refine wpR_val (v := (Value.func (.func 29) #[] (List.toArray [(Value.pointer (some (Addr.mk b2 0 none)))]))) (w' := w2) rfl rfl rfl (x_assign (v := (Value.func (.func 29) #[] (List.toArray [(Value.pointer (some (Addr.mk b2 0 none)))]))) rfl rfl) ?_
  refine wpR_nil ?_
  refine wpC_seq ?_
  refine wpC_cut (fun ρ => ρ 2 = (Value.pointer (some (Addr.mk b1 0 none))) ∧ ρ 5 = (Value.bool c39) ∧ ρ 6 = (Value.bool c60) ∧ ρ 7 = (Value.bool c74) ∧ ρ 8 = (Value.func (.func 29) #[] (List.toArray [(Value.pointer (some (Addr.mk b2 0 none)))])) ∧ True) ⟨e2, e5, e6, e7, rfl, trivial⟩ ?_
  rintro ρ ⟨e2, e5, e6, e7, e8, -⟩
  refine wpC_region ?_
  refine wpR_val (v := (Value.bool c39)) (w' := w2) rfl rfl rfl (x_move (v := (Value.bool c39)) rfl e5) ?_
  refine wpR_val (v := (Value.bool c39)) (w' := w2) rfl rfl rfl (x_move (v := (Value.bool c39)) rfl rfl) ?_
  refine wpR_joinJ 2 (fun (_ : Unit) ρ => ρ 112 = Value.bool (c39 && c60) ∧ ρ 2 = (Value.pointer (some (Addr.mk b1 0 none))) ∧ ρ 7 = (Value.bool c74) ∧ ρ 8 = (Value.func (.func 29) #[] (List.toArray [(Value.pointer (some (Addr.mk b2 0 none)))])) ∧ True) (fun _ w => w2 = w) ?_ ?_
  · clear h
    rcases Bool.eq_false_or_eq_true (c39) with hc76 | hc76
    · skip
      refine wpR_val (v := (Value.bool c60)) (w' := w2) (wantG rfl rfl rfl hc76) rfl rfl (x_move (v := (Value.bool c60)) rfl e6) ?_
      refine wpR_val (v := (Value.bool c60)) (w' := w2) rfl rfl rfl (x_pickT (v := (Value.bool c60)) rfl rfl hc76 rfl) ?_
      refine wpR_nil ?_
      exact ⟨(), ⟨(by rw [hc76]; rfl), e2, e7, e8, trivial⟩, rfl⟩
    · skip
      refine wpR_pass (wantN rfl rfl rfl hc76) rfl rfl ?_
      refine wpR_val (v := (Value.bool false)) (w' := w2) rfl rfl rfl (x_pickF (v := (Value.bool false)) rfl rfl hc76 rfl) ?_
      refine wpR_nil ?_
      exact ⟨(), ⟨(by rw [hc76]; rfl), e2, e7, e8, trivial⟩, rfl⟩
  rintro _ ρ wj ⟨e112, e2, e7, e8, -⟩ rfl
  refine wpR_val (v := (Value.bool (c39 && c60))) (w' := w2) rfl rfl rfl (x_move (v := (Value.bool (c39 && c60))) rfl e112) ?_
  refine wpR_joinJ 2 (fun (_ : Unit) ρ => ρ 115 = Value.bool ((c39 && c60) && c74) ∧ ρ 2 = (Value.pointer (some (Addr.mk b1 0 none))) ∧ ρ 8 = (Value.func (.func 29) #[] (List.toArray [(Value.pointer (some (Addr.mk b2 0 none)))])) ∧ True) (fun _ w => w2 = w) ?_ ?_
  · clear h
    rcases Bool.eq_false_or_eq_true (c39 && c60) with hc78 | hc78
    · skip
      refine wpR_val (v := (Value.bool c74)) (w' := w2) (wantG rfl rfl rfl hc78) rfl rfl (x_move (v := (Value.bool c74)) rfl e7) ?_
      refine wpR_val (v := (Value.bool c74)) (w' := w2) rfl rfl rfl (x_pickT (v := (Value.bool c74)) rfl rfl hc78 rfl) ?_
      refine wpR_nil ?_
      exact ⟨(), ⟨(by rw [hc78]; rfl), e2, e8, trivial⟩, rfl⟩
    · skip
      refine wpR_pass (wantN rfl rfl rfl hc78) rfl rfl ?_
      refine wpR_val (v := (Value.bool false)) (w' := w2) rfl rfl rfl (x_pickF (v := (Value.bool false)) rfl rfl hc78 rfl) ?_
      refine wpR_nil ?_
      exact ⟨(), ⟨(by rw [hc78]; rfl), e2, e8, trivial⟩, rfl⟩
  rintro _ ρ wj ⟨e115, e2, e8, -⟩ rfl
  refine wpR_val (v := (Value.bool ((c39 && c60) && c74))) (w' := w2) rfl rfl rfl (x_move (v := (Value.bool ((c39 && c60) && c74))) rfl e115) ?_
  obtain ⟨J79, h, hk⟩ := h
  refine wpR_joinJ 6 (fun x ρ => ρ 122 = Value.bool x ∧ True) (J79) ?_ ?_
  · clear hk
    rcases Bool.eq_false_or_eq_true ((c39 && c60) && c74) with hc80 | hc80
    · replace h := h.1 hc80
      refine wpR_val (v := (Value.pointer (some ((Addr.mk b1 0 none).add 12)))) (w' := w2) (wantG rfl rfl rfl hc80) rfl rfl (x_fieldAddr rfl e2 FA_24_12) ?_
      obtain ⟨x81, q81, h⟩ := h
      refine wpR_val (v := (Sl.v x81)) (w' := w2) (wantG rfl rfl rfl hc80) rfl rfl (x_load1 rfl rfl SH_22 q81) ?_
      refine wpR_val (v := (Value.func (.func 29) #[] (List.toArray [(Value.pointer (some (Addr.mk b2 0 none)))]))) (w' := w2) (wantG rfl rfl rfl hc80) rfl rfl (x_move (v := (Value.func (.func 29) #[] (List.toArray [(Value.pointer (some (Addr.mk b2 0 none)))]))) rfl e8) ?_
      refine wpR_enter (wantG rfl rfl rfl hc80) rfl rfl (x_call (vs := [(Sl.v x81), (Value.func (.func 29) #[] (List.toArray [(Value.pointer (some (Addr.mk b2 0 none)))]))]) rfl rfl (mapl_cons rfl (mapl_cons rfl mapl_nil)) Try.func30 NN_30 NB_30) (Calls.mono h ?_)
      rintro _ w3 ⟨r82, rfl, h⟩
      refine ⟨_, rfl, ?_⟩
      refine wpR_val (v := (Value.bool (!r82))) (w' := w3) (wantG rfl rfl rfl hc80) rfl rfl (x_not rfl rfl) ?_
      refine wpR_val (v := (Value.bool (!r82))) (w' := w3) rfl rfl rfl (x_pickT (v := (Value.bool (!r82))) rfl rfl hc80 rfl) ?_
      refine wpR_nil ?_
      exact ⟨!r82, ⟨rfl, trivial⟩, h⟩
    · replace h := h.2 hc80
      refine wpR_pass (wantN rfl rfl rfl hc80) rfl rfl ?_
      refine wpR_pass (wantN rfl rfl rfl hc80) rfl rfl ?_
      refine wpR_pass (wantN rfl rfl rfl hc80) rfl rfl ?_
      refine wpR_pass (wantN rfl rfl rfl hc80) rfl rfl ?_
      refine wpR_pass (wantN rfl rfl rfl hc80) rfl rfl ?_
      refine wpR_val (v := (Value.bool false)) (w' := w2) rfl rfl rfl (x_pickF (v := (Value.bool false)) rfl rfl hc80 rfl) ?_
      refine wpR_nil ?_
      exact ⟨false, ⟨rfl, trivial⟩, h⟩
  clear h
  rintro c83 ρ w4 ⟨e122, -⟩ h
  replace h := hk c83 w4 h
  clear hk
  refine wpR_val (v := (Value.bool c83)) (w' := w4) rfl rfl rfl (x_assign (v := (Value.bool c83)) rfl e122) ?_
  refine wpR_nil ?_
  refine wpC_ret ?_
  exact ⟨.inl rfl, fun a ha => ⟨_, results_rep1 rfl ha rfl, c83, rfl, h⟩⟩

/-- linguaref13.Same -/
def F14 (p0_0 : ByteArray) (p0_1 : Int) (p0_2 : Int) (p0_3 : Int) (p0_4 : Bool) (p0_5 : Int) (p0_6 : Bool) (p0_7 : Bool) (p0_8 : Int) (p0_9 : Int) (p0_10 : Int) (p0_11 : Int) (p0_12 : Sl) (p0_13 : Int) (p0_14 : Int) (p0_15 : Int) (p0_16 : Int) (p0_17 : Bool) (p0_18 : Int) (p0_19 : Int) (p0_20 : Int) (p0_21 : Int) (p1_0 : ByteArray) (p1_1 : Int) (p1_2 : Int) (p1_3 : Int) (p1_4 : Bool) (p1_5 : Int) (p1_6 : Bool) (p1_7 : Bool) (p1_8 : Int) (p1_9 : Int) (p1_10 : Int) (p1_11 : Int) (p1_12 : Sl) (p1_13 : Int) (p1_14 : Int) (p1_15 : Int) (p1_16 : Int) (p1_17 : Bool) (p1_18 : Int) (p1_19 : Int) (p1_20 : Int) (p1_21 : Int) (w0 : World) (K : Bool → World → Prop) : Prop :=
  nw 24 (A23 p0_0 p0_1 p0_2 p0_3 p0_4 p0_5 p0_6 p0_7 p0_8 p0_9 p0_10 p0_11 p0_12 p0_13 p0_14 p0_15 p0_16 p0_17 p0_18 p0_19 p0_20 p0_21) w0 fun b1 w1 =>
  nw 24 (A23 p1_0 p1_1 p1_2 p1_3 p1_4 p1_5 p1_6 p1_7 p1_8 p1_9 p1_10 p1_11 p1_12 p1_13 p1_14 p1_15 p1_16 p1_17 p1_18 p1_19 p1_20 p1_21) w1 fun b2 w2 =>
  L23 (Addr.mk b1 0 none) w2 fun x3 x4 x5 x6 x7 x8 x9 x10 x11 x12 x13 x14 x15 x16 x17 x18 x19 x20 x21 x22 x23 x24 =>
  callC Try.prog 31 #[(V23 x3 x4 x5 x6 x7 x8 x9 x10 x11 x12 x13 x14 x15 x16 x17 x18 x19 x20 x21 x22 x23 x24)] (fun (r : Sl) => (Sl.v r)) w2 fun r25 w3 =>
  L23 (Addr.mk b2 0 none) w3 fun x26 x27 x28 x29 x30 x31 x32 x33 x34 x35 x36 x37 x38 x39 x40 x41 x42 x43 x44 x45 x46 x47 =>
  callC Try.prog 31 #[(V23 x26 x27 x28 x29 x30 x31 x32 x33 x34 x35 x36 x37 x38 x39 x40 x41 x42 x43 x44 x45 x46 x47)] (fun (r : Sl) => (Sl.v r)) w3 fun r48 w4 =>
  lp (fun (next49 : Int → World → Prop) l49 w5 =>
    cnd (decide (l49 < (r25.len : Int)))
      (
      jn (fun (J52 : Bool → World → Prop) => tk w5 fun w6 =>
        ix r25 l49 1 fun p53 =>
        ld (Value.int .i64) p53 w6 fun x54 =>
        ix r48 l49 1 fun p55 =>
        ld (Value.int .i64) p55 w6 fun x56 =>
        J52 (!decide (x54 = x56)) w6
      )
      fun l57 w7 =>
      cnd (l57)
        (
        K false w7
        )
        (
        next49 (IntKind.i64.wrap (l49 + 1)) w7
        )
      )
      (
      ld Sl.v ((Addr.mk b1 0 none).add 12) w5 fun x59 =>
      ld Sl.v ((Addr.mk b2 0 none).add 12) w5 fun x60 =>
      cnd (!decide ((x59.len : Int) = (x60.len : Int)))
        (
        K false w5
        )
        (
        lp (fun (next62 : Int → World → Prop) l62 w8 =>
          ld Sl.v ((Addr.mk b1 0 none).add 12) w8 fun x63 =>
          cnd (decide (l62 < (x63.len : Int)))
            (
            jn (fun (J66 : Bool → World → Prop) => tk w8 fun w9 =>
              ld Sl.v ((Addr.mk b1 0 none).add 12) w9 fun x67 =>
              ix x67 l62 1 fun p68 =>
              ld Value.string p68 w9 fun x69 =>
              ld Sl.v ((Addr.mk b2 0 none).add 12) w9 fun x70 =>
              ix x70 l62 1 fun p71 =>
              ld Value.string p71 w9 fun x72 =>
              J66 (!beqS x69 x72) w9
            )
            fun l73 w10 =>
            cnd (l73)
              (
              K false w10
              )
              (
              next62 (IntKind.i64.wrap (l62 + 1)) w10
              )
            )
            (
            ld Value.string ((Addr.mk b1 0 none).add 0) w8 fun x75 =>
            ld Value.string ((Addr.mk b2 0 none).add 0) w8 fun x76 =>
            jp (fun J77 => cnd (beqS x75 x76)
              (
              ld (Value.int .i64) ((Addr.mk b1 0 none).add 2) w8 fun x79 =>
              ld (Value.int .i64) ((Addr.mk b2 0 none).add 2) w8 fun x80 =>
              J77 (decide (x79 = x80))
              )
              (
              J77 false
              ))
            fun c81 =>
            jp (fun J82 => cnd (c81)
              (
              ld (Value.int .i64) ((Addr.mk b1 0 none).add 13) w8 fun x84 =>
              ld (Value.int .i64) ((Addr.mk b2 0 none).add 13) w8 fun x85 =>
              J82 (decide (x84 = x85))
              )
              (
              J82 false
              ))
            fun c86 =>
            jp (fun J87 => cnd (c86)
              (
              ld (Value.int .i64) ((Addr.mk b1 0 none).add 14) w8 fun x89 =>
              ld (Value.int .i64) ((Addr.mk b2 0 none).add 14) w8 fun x90 =>
              J87 (decide (x89 = x90))
              )
              (
              J87 false
              ))
            fun c91 =>
            jp (fun J92 => cnd (c91)
              (
              ld (Value.int .i64) ((Addr.mk b1 0 none).add 15) w8 fun x94 =>
              ld (Value.int .i64) ((Addr.mk b2 0 none).add 15) w8 fun x95 =>
              J92 (decide (x94 = x95))
              )
              (
              J92 false
              ))
            fun c96 =>
            jp (fun J97 => cnd (c96)
              (
              ld Value.bool ((Addr.mk b1 0 none).add 17) w8 fun x99 =>
              ld Value.bool ((Addr.mk b2 0 none).add 17) w8 fun x100 =>
              J97 (x99 == x100)
              )
              (
              J97 false
              ))
            fun c101 =>
            jp (fun J102 => cnd (c101)
              (
              ld (Value.int .i64) ((Addr.mk b1 0 none).add 18) w8 fun x104 =>
              ld (Value.int .i64) ((Addr.mk b2 0 none).add 18) w8 fun x105 =>
              J102 (decide (x104 = x105))
              )
              (
              J102 false
              ))
            fun c106 =>
            jp (fun J107 => cnd (c106)
              (
              ld (Value.int .i64) ((Addr.mk b1 0 none).add 19) w8 fun x109 =>
              ld (Value.int .i64) ((Addr.mk b2 0 none).add 19) w8 fun x110 =>
              J107 (decide (x109 = x110))
              )
              (
              J107 false
              ))
            fun c111 =>
            jp (fun J112 => cnd (c111)
              (
              ld (Value.int .i64) ((Addr.mk b1 0 none).add 20) w8 fun x114 =>
              ld (Value.int .i64) ((Addr.mk b2 0 none).add 20) w8 fun x115 =>
              J112 (decide (x114 = x115))
              )
              (
              J112 false
              ))
            fun c116 =>
            jp (fun J117 => cnd (c116)
              (
              ld (Value.int .i64) ((Addr.mk b1 0 none).add 21) w8 fun x119 =>
              ld (Value.int .i64) ((Addr.mk b2 0 none).add 21) w8 fun x120 =>
              J117 (decide (x119 = x120))
              )
              (
              J117 false
              ))
            fun c121 =>
            K c121 w8
            )
        ) 0 w5
        )
      )
  ) 0 w4
set_option maxRecDepth 100000 in
theorem D14 (p0_0 : ByteArray) (p0_1 : Int) (p0_2 : Int) (p0_3 : Int) (p0_4 : Bool) (p0_5 : Int) (p0_6 : Bool) (p0_7 : Bool) (p0_8 : Int) (p0_9 : Int) (p0_10 : Int) (p0_11 : Int) (p0_12 : Sl) (p0_13 : Int) (p0_14 : Int) (p0_15 : Int) (p0_16 : Int) (p0_17 : Bool) (p0_18 : Int) (p0_19 : Int) (p0_20 : Int) (p0_21 : Int) (p1_0 : ByteArray) (p1_1 : Int) (p1_2 : Int) (p1_3 : Int) (p1_4 : Bool) (p1_5 : Int) (p1_6 : Bool) (p1_7 : Bool) (p1_8 : Int) (p1_9 : Int) (p1_10 : Int) (p1_11 : Int) (p1_12 : Sl) (p1_13 : Int) (p1_14 : Int) (p1_15 : Int) (p1_16 : Int) (p1_17 : Bool) (p1_18 : Int) (p1_19 : Int) (p1_20 : Int) (p1_21 : Int) (w0 : World) (K : Bool → World → Prop) (h : F14 p0_0 p0_1 p0_2 p0_3 p0_4 p0_5 p0_6 p0_7 p0_8 p0_9 p0_10 p0_11 p0_12 p0_13 p0_14 p0_15 p0_16 p0_17 p0_18 p0_19 p0_20 p0_21 p1_0 p1_1 p1_2 p1_3 p1_4 p1_5 p1_6 p1_7 p1_8 p1_9 p1_10 p1_11 p1_12 p1_13 p1_14 p1_15 p1_16 p1_17 p1_18 p1_19 p1_20 p1_21 w0 K) : callC Try.prog 14 #[(V23 p0_0 p0_1 p0_2 p0_3 p0_4 p0_5 p0_6 p0_7 p0_8 p0_9 p0_10 p0_11 p0_12 p0_13 p0_14 p0_15 p0_16 p0_17 p0_18 p0_19 p0_20 p0_21), (V23 p1_0 p1_1 p1_2 p1_3 p1_4 p1_5 p1_6 p1_7 p1_8 p1_9 p1_10 p1_11 p1_12 p1_13 p1_14 p1_15 p1_16 p1_17 p1_18 p1_19 p1_20 p1_21)] (fun (r : Bool) => (Value.bool r)) w0 K := by
  unfold F14 at h
  refine calls_of_wpC Try.func14 rfl 123 rfl (by simp) ?_
  intro ρ hρ
  have e0 : ρ 0 = (V23 p0_0 p0_1 p0_2 p0_3 p0_4 p0_5 p0_6 p0_7 p0_8 p0_9 p0_10 p0_11 p0_12 p0_13 p0_14 p0_15 p0_16 p0_17 p0_18 p0_19 p0_20 p0_21) := hρ 0
  have e1 : ρ 1 = (V23 p1_0 p1_1 p1_2 p1_3 p1_4 p1_5 p1_6 p1_7 p1_8 p1_9 p1_10 p1_11 p1_12 p1_13 p1_14 p1_15 p1_16 p1_17 p1_18 p1_19 p1_20 p1_21) := hρ 1
  clear hρ
  refine wpC_seq ?_
  refine wpC_region ?_
  obtain ⟨b1, hb1⟩ : ∃ u, u = w0.heap.size := ⟨_, rfl⟩
  obtain ⟨w1, hw1⟩ : ∃ u, u = w0.alloc (.cells (A23 p0_0 p0_1 p0_2 p0_3 p0_4 p0_5 p0_6 p0_7 p0_8 p0_9 p0_10 p0_11 p0_12 p0_13 p0_14 p0_15 p0_16 p0_17 p0_18 p0_19 p0_20 p0_21) 24) := ⟨_, rfl⟩
  replace h := h b1 w1 hb1 hw1
  refine wpR_val (v := (Value.pointer (some (Addr.mk b1 0 none)))) (w' := w1) rfl rfl rfl ((x_box (v := (V23 p0_0 p0_1 p0_2 p0_3 p0_4 p0_5 p0_6 p0_7 p0_8 p0_9 p0_10 p0_11 p0_12 p0_13 p0_14 p0_15 p0_16 p0_17 p0_18 p0_19 p0_20 p0_21)) rfl e0).trans (by rw [hb1, hw1]; rfl)) ?_
  obtain ⟨b2, hb2⟩ : ∃ u, u = w1.heap.size := ⟨_, rfl⟩
  obtain ⟨w2, hw2⟩ : ∃ u, u = w1.alloc (.cells (A23 p1_0 p1_1 p1_2 p1_3 p1_4 p1_5 p1_6 p1_7 p1_8 p1_9 p1_10 p1_11 p1_12 p1_13 p1_14 p1_15 p1_16 p1_17 p1_18 p1_19 p1_20 p1_21) 24) := ⟨_, rfl⟩
  replace h := h b2 w2 hb2 hw2
  refine wpR_val (v := (Value.pointer (some (Addr.mk b2 0 none)))) (w' := w2) rfl rfl rfl ((x_box (v := (V23 p1_0 p1_1 p1_2 p1_3 p1_4 p1_5 p1_6 p1_7 p1_8 p1_9 p1_10 p1_11 p1_12 p1_13 p1_14 p1_15 p1_16 p1_17 p1_18 p1_19 p1_20 p1_21)) rfl e1).trans (by rw [hb2, hw2]; rfl)) ?_
  refine wpR_val (v := (Value.bool false)) (w' := w2) rfl rfl rfl (x_assign (v := (Value.bool false)) rfl rfl) ?_
  refine wpR_nil ?_
  refine wpC_seq ?_
  refine wpC_cut (fun ρ => ρ 2 = (Value.pointer (some (Addr.mk b1 0 none))) ∧ ρ 3 = (Value.pointer (some (Addr.mk b2 0 none))) ∧ True) ⟨rfl, rfl, trivial⟩ ?_
  rintro ρ ⟨e2, e3, -⟩
  refine wpC_region ?_
  obtain ⟨x3, q3, x4, q4, x5, q5, x6, q6, x7, q7, x8, q8, x9, q9, x10, q10, x11, q11, x12, q12, x13, q13, x14, q14, x15, q15, x16, q16, x17, q17, x18, q18, x19, q19, x20, q20, x21, q21, x22, q22, x23, q23, x24, q24, h⟩ := h
  refine wpR_val (v := (V23 x3 x4 x5 x6 x7 x8 x9 x10 x11 x12 x13 x14 x15 x16 x17 x18 x19 x20 x21 x22 x23 x24)) (w' := w2) rfl rfl rfl (x_loadN (S23 x3 x4 x5 x6 x7 x8 x9 x10 x11 x12 x13 x14 x15 x16 x17 x18 x19 x20 x21 x22 x23 x24) rfl e2 SH_24 (K23 ⟨q3, q4, q5, q6, q7, q8, q9, q10, q11, q12, q13, q14, q15, q16, q17, q18, q19, q20, q21, q22, q23, q24⟩)) ?_
  refine wpR_enter rfl rfl rfl (x_call (vs := [(V23 x3 x4 x5 x6 x7 x8 x9 x10 x11 x12 x13 x14 x15 x16 x17 x18 x19 x20 x21 x22 x23 x24)]) rfl rfl (mapl_cons rfl mapl_nil) Try.func31 NN_31 NB_31) (Calls.mono h ?_)
  rintro _ w3 ⟨r25, rfl, h⟩
  refine ⟨_, rfl, ?_⟩
  refine wpR_val (v := (Sl.v r25)) (w' := w3) rfl rfl rfl (x_assign (v := (Sl.v r25)) rfl rfl) ?_
  refine wpR_nil ?_
  refine wpC_seq ?_
  refine wpC_cut (fun ρ => ρ 2 = (Value.pointer (some (Addr.mk b1 0 none))) ∧ ρ 3 = (Value.pointer (some (Addr.mk b2 0 none))) ∧ ρ 5 = (Sl.v r25) ∧ True) ⟨e2, e3, rfl, trivial⟩ ?_
  rintro ρ ⟨e2, e3, e5, -⟩
  refine wpC_region ?_
  obtain ⟨x26, q26, x27, q27, x28, q28, x29, q29, x30, q30, x31, q31, x32, q32, x33, q33, x34, q34, x35, q35, x36, q36, x37, q37, x38, q38, x39, q39, x40, q40, x41, q41, x42, q42, x43, q43, x44, q44, x45, q45, x46, q46, x47, q47, h⟩ := h
  refine wpR_val (v := (V23 x26 x27 x28 x29 x30 x31 x32 x33 x34 x35 x36 x37 x38 x39 x40 x41 x42 x43 x44 x45 x46 x47)) (w' := w3) rfl rfl rfl (x_loadN (S23 x26 x27 x28 x29 x30 x31 x32 x33 x34 x35 x36 x37 x38 x39 x40 x41 x42 x43 x44 x45 x46 x47) rfl e3 SH_24 (K23 ⟨q26, q27, q28, q29, q30, q31, q32, q33, q34, q35, q36, q37, q38, q39, q40, q41, q42, q43, q44, q45, q46, q47⟩)) ?_
  refine wpR_enter rfl rfl rfl (x_call (vs := [(V23 x26 x27 x28 x29 x30 x31 x32 x33 x34 x35 x36 x37 x38 x39 x40 x41 x42 x43 x44 x45 x46 x47)]) rfl rfl (mapl_cons rfl mapl_nil) Try.func31 NN_31 NB_31) (Calls.mono h ?_)
  rintro _ w4 ⟨r48, rfl, h⟩
  refine ⟨_, rfl, ?_⟩
  refine wpR_val (v := (Sl.v r48)) (w' := w4) rfl rfl rfl (x_assign (v := (Sl.v r48)) rfl rfl) ?_
  refine wpR_nil ?_
  refine wpC_seq ?_
  refine wpC_seq ?_
  refine wpC_cut (fun ρ => ρ 2 = (Value.pointer (some (Addr.mk b1 0 none))) ∧ ρ 3 = (Value.pointer (some (Addr.mk b2 0 none))) ∧ ρ 5 = (Sl.v r25) ∧ ρ 6 = (Sl.v r48) ∧ True) ⟨e2, e3, e5, rfl, trivial⟩ ?_
  rintro ρ ⟨e2, e3, e5, e6, -⟩
  refine wpC_region ?_
  refine wpR_val (v := (Value.int .i64 0)) (w' := w4) rfl rfl rfl (x_assign (v := (Value.int .i64 0)) rfl rfl) ?_
  refine wpR_nil ?_
  refine wpC_block ?_
  obtain ⟨I49, μ49, hI49, hr49⟩ := h
  refine wpC_loop (fun (x : Int) ρ => ρ 7 = (Value.int .i64 x) ∧ ρ 2 = (Value.pointer (some (Addr.mk b1 0 none))) ∧ ρ 3 = (Value.pointer (some (Addr.mk b2 0 none))) ∧ ρ 5 = (Sl.v r25) ∧ ρ 6 = (Sl.v r48) ∧ True) I49 μ49 0 ⟨rfl, e2, e3, e5, e6, trivial⟩ hI49 ?_
  rintro l49 ρ w5 ⟨e7, e2, e3, e5, e6, -⟩ h
  replace h := hr49 l49 w5 h
  clear hr49 hI49
  refine wpC_seq ?_
  refine wpC_seq ?_
  refine wpC_region ?_
  refine wpR_val (v := (Value.int .i64 l49)) (w' := w5) rfl rfl rfl (x_move (v := (Value.int .i64 l49)) rfl e7) ?_
  refine wpR_val (v := (Sl.v r25)) (w' := w5) rfl rfl rfl (x_move (v := (Sl.v r25)) rfl e5) ?_
  refine wpR_val (v := (Value.int .i64 (r25.len : Int))) (w' := w5) rfl rfl rfl (x_lenS (s := r25) rfl rfl isSliceT_38) ?_
  refine wpR_val (v := (Value.bool (decide (l49 < (r25.len : Int))))) (w' := w5) rfl rfl rfl (x_lss rfl rfl rfl) ?_
  refine wpR_nil ?_
  refine wpC_cond (b := decide (l49 < (r25.len : Int))) rfl (fun hc50 => ?_) (fun hc50 => ?_)
  · replace h := h.1 hc50
    refine wpC_skip ?_
    refine wpC_seq ?_
    refine wpC_block ?_
    refine wpC_seq ?_
    refine wpC_cut (fun ρ => ρ 2 = (Value.pointer (some (Addr.mk b1 0 none))) ∧ ρ 3 = (Value.pointer (some (Addr.mk b2 0 none))) ∧ ρ 5 = (Sl.v r25) ∧ ρ 6 = (Sl.v r48) ∧ ρ 7 = (Value.int .i64 l49) ∧ True) ⟨e2, e3, e5, e6, e7, trivial⟩ ?_
    rintro ρ ⟨e2, e3, e5, e6, e7, -⟩
    obtain ⟨J52, h, hk⟩ := h
    refine wpC_drawJ (by kernel_rfl) (fun (x : Bool) ρ => ρ 28 = (Value.bool x) ∧ ρ 2 = (Value.pointer (some (Addr.mk b1 0 none))) ∧ ρ 3 = (Value.pointer (some (Addr.mk b2 0 none))) ∧ ρ 5 = (Sl.v r25) ∧ ρ 6 = (Sl.v r48) ∧ ρ 7 = (Value.int .i64 l49) ∧ True) J52 ?_ ?_
    · clear hk
      unfold tk at h
      generalize w5.drew = w6 at h ⊢
      refine wpD_take (v := (Sl.v r25)) 0 (fun _ => True) rfl (by kernel_rfl) (by kernel_rfl) (by kernel_rfl) rfl rfl rfl trivial (fun w _ => (x_move (v := (Sl.v r25)) rfl e5)) ?_
      refine wpD_take (v := (Value.int .i64 l49)) 1 (fun _ => True) rfl (by kernel_rfl) (by kernel_rfl) (by kernel_rfl) rfl rfl rfl trivial (fun w _ => (x_move (v := (Value.int .i64 l49)) rfl e7)) ?_
      obtain ⟨q53, z53, r53, h⟩ := h
      generalize hp53 : z53.add ((l49 : Int).toNat * 1) = p53 at h
      refine wpD_take (v := (Value.pointer (some p53))) 2 (fun _ => True) rfl (by kernel_rfl) (by kernel_rfl) (by kernel_rfl) rfl rfl rfl trivial (fun w _ => ((x_indexAddr (s := r25) rfl rfl rfl ES_38 q53 r53).trans (by rw [hp53]))) ?_
      obtain ⟨x54, q54, h⟩ := h
      refine wpD_take (v := (Value.int .i64 x54)) 3 (fun w => w.cell? p53 = some (Value.int .i64 x54)) rfl (by kernel_rfl) (by kernel_rfl) (by kernel_rfl) rfl rfl rfl q54 (fun w q54 => (x_load1 rfl rfl SH_3 q54)) ?_
      refine wpD_take (v := (Sl.v r48)) 4 (fun _ => True) rfl (by kernel_rfl) (by kernel_rfl) (by kernel_rfl) rfl rfl rfl trivial (fun w _ => (x_move (v := (Sl.v r48)) rfl e6)) ?_
      refine wpD_take (v := (Value.int .i64 l49)) 5 (fun _ => True) rfl (by kernel_rfl) (by kernel_rfl) (by kernel_rfl) rfl rfl rfl trivial (fun w _ => (x_move (v := (Value.int .i64 l49)) rfl e7)) ?_
      obtain ⟨q55, z55, r55, h⟩ := h
      generalize hp55 : z55.add ((l49 : Int).toNat * 1) = p55 at h
      refine wpD_take (v := (Value.pointer (some p55))) 6 (fun _ => True) rfl (by kernel_rfl) (by kernel_rfl) (by kernel_rfl) rfl rfl rfl trivial (fun w _ => ((x_indexAddr (s := r48) rfl rfl rfl ES_38 q55 r55).trans (by rw [hp55]))) ?_
      obtain ⟨x56, q56, h⟩ := h
      refine wpD_take (v := (Value.int .i64 x56)) 7 (fun w => w.cell? p55 = some (Value.int .i64 x56)) rfl (by kernel_rfl) (by kernel_rfl) (by kernel_rfl) rfl rfl rfl q56 (fun w q56 => (x_load1 rfl rfl SH_3 q56)) ?_
      refine wpD_take (v := (Value.bool (!decide (x54 = x56)))) 8 (fun _ => True) rfl (by kernel_rfl) (by kernel_rfl) (by kernel_rfl) rfl rfl rfl trivial (fun w _ => (x_neq rfl rfl rfl)) ?_
      exact wpD_done (by kernel_rfl) ⟨!decide (x54 = x56), ⟨rfl, e2, e3, e5, e6, e7, trivial⟩, h⟩
    clear h
    rintro l57 ρ w7 ⟨e28, e2, e3, e5, e6, e7, -⟩ h
    replace h := hk l57 w7 h
    clear hk
    refine wpC_cond (b := l57) e28 (fun hc58 => ?_) (fun hc58 => ?_)
    · replace h := h.1 hc58
      refine wpC_seq ?_
      refine wpC_region ?_
      refine wpR_val (v := (Value.bool false)) (w' := w7) rfl rfl rfl (x_assign (v := (Value.bool false)) rfl rfl) ?_
      refine wpR_nil ?_
      refine wpC_ret ?_
      exact ⟨.inl rfl, fun a ha => ⟨_, results_rep1 rfl ha rfl, false, rfl, h⟩⟩
    · replace h := h.2 hc58
      refine wpC_skip ?_
      refine wpC_region ?_
      refine wpR_val (v := (Value.int .i64 l49)) (w' := w7) rfl rfl rfl (x_move (v := (Value.int .i64 l49)) rfl e7) ?_
      refine wpR_val (v := (Value.int .i64 (IntKind.i64.wrap (l49 + 1)))) (w' := w7) rfl rfl rfl (x_add rfl rfl rfl) ?_
      refine wpR_val (v := (Value.int .i64 (IntKind.i64.wrap (l49 + 1)))) (w' := w7) rfl rfl rfl (x_assign (v := (Value.int .i64 (IntKind.i64.wrap (l49 + 1)))) rfl rfl) ?_
      refine wpR_nil ?_
      exact ⟨IntKind.i64.wrap (l49 + 1), ⟨rfl, e2, e3, e5, e6, trivial⟩, h⟩
  · replace h := h.2 hc50
    refine wpC_exit ?_
    refine wpC_seq ?_
    refine wpC_seq ?_
    refine wpC_cut (fun ρ => ρ 2 = (Value.pointer (some (Addr.mk b1 0 none))) ∧ ρ 3 = (Value.pointer (some (Addr.mk b2 0 none))) ∧ True) ⟨e2, e3, trivial⟩ ?_
    rintro ρ ⟨e2, e3, -⟩
    refine wpC_region ?_
    refine wpR_val (v := (Value.pointer (some ((Addr.mk b1 0 none).add 12)))) (w' := w5) rfl rfl rfl (x_fieldAddr rfl e2 FA_24_12) ?_
    obtain ⟨x59, q59, h⟩ := h
    refine wpR_val (v := (Sl.v x59)) (w' := w5) rfl rfl rfl (x_load1 rfl rfl SH_22 q59) ?_
    refine wpR_val (v := (Value.int .i64 (x59.len : Int))) (w' := w5) rfl rfl rfl (x_lenS (s := x59) rfl rfl isSliceT_22) ?_
    refine wpR_val (v := (Value.pointer (some ((Addr.mk b2 0 none).add 12)))) (w' := w5) rfl rfl rfl (x_fieldAddr rfl e3 FA_24_12) ?_
    obtain ⟨x60, q60, h⟩ := h
    refine wpR_val (v := (Sl.v x60)) (w' := w5) rfl rfl rfl (x_load1 rfl rfl SH_22 q60) ?_
    refine wpR_val (v := (Value.int .i64 (x60.len : Int))) (w' := w5) rfl rfl rfl (x_lenS (s := x60) rfl rfl isSliceT_22) ?_
    refine wpR_val (v := (Value.bool (!decide ((x59.len : Int) = (x60.len : Int))))) (w' := w5) rfl rfl rfl (x_neq rfl rfl rfl) ?_
    refine wpR_nil ?_
    refine wpC_cond (b := !decide ((x59.len : Int) = (x60.len : Int))) rfl (fun hc61 => ?_) (fun hc61 => ?_)
    · replace h := h.1 hc61
      refine wpC_seq ?_
      refine wpC_cut (fun ρ => True) trivial ?_
      rintro ρ -
      refine wpC_region ?_
      refine wpR_val (v := (Value.bool false)) (w' := w5) rfl rfl rfl (x_assign (v := (Value.bool false)) rfl rfl) ?_
      refine wpR_nil ?_
      refine wpC_ret ?_
      exact ⟨.inl rfl, fun a ha => ⟨_, results_rep1 rfl ha rfl, false, rfl, h⟩⟩
    · replace h := h.2 hc61
      refine wpC_skip ?_
      refine wpC_seq ?_
      refine wpC_seq ?_
      refine wpC_cut (fun ρ => ρ 2 = (Value.pointer (some (Addr.mk b1 0 none))) ∧ ρ 3 = (Value.pointer (some (Addr.mk b2 0 none))) ∧ True) ⟨e2, e3, trivial⟩ ?_
      rintro ρ ⟨e2, e3, -⟩
      refine wpC_region ?_
      refine wpR_val (v := (Value.int .i64 0)) (w' := w5) rfl rfl rfl (x_assign (v := (Value.int .i64 0)) rfl rfl) ?_
      refine wpR_nil ?_
      refine wpC_block ?_
      obtain ⟨I62, μ62, hI62, hr62⟩ := h
      refine wpC_loop (fun (x : Int) ρ => ρ 8 = (Value.int .i64 x) ∧ ρ 2 = (Value.pointer (some (Addr.mk b1 0 none))) ∧ ρ 3 = (Value.pointer (some (Addr.mk b2 0 none))) ∧ True) I62 μ62 0 ⟨rfl, e2, e3, trivial⟩ hI62 ?_
      rintro l62 ρ w8 ⟨e8, e2, e3, -⟩ h
      replace h := hr62 l62 w8 h
      clear hr62 hI62
      refine wpC_seq ?_
      refine wpC_seq ?_
      refine wpC_region ?_
      refine wpR_val (v := (Value.int .i64 l62)) (w' := w8) rfl rfl rfl (x_move (v := (Value.int .i64 l62)) rfl e8) ?_
      refine wpR_val (v := (Value.pointer (some ((Addr.mk b1 0 none).add 12)))) (w' := w8) rfl rfl rfl (x_fieldAddr rfl e2 FA_24_12) ?_
      obtain ⟨x63, q63, h⟩ := h
      refine wpR_val (v := (Sl.v x63)) (w' := w8) rfl rfl rfl (x_load1 rfl rfl SH_22 q63) ?_
      refine wpR_val (v := (Value.int .i64 (x63.len : Int))) (w' := w8) rfl rfl rfl (x_lenS (s := x63) rfl rfl isSliceT_22) ?_
      refine wpR_val (v := (Value.bool (decide (l62 < (x63.len : Int))))) (w' := w8) rfl rfl rfl (x_lss rfl rfl rfl) ?_
      refine wpR_nil ?_
      refine wpC_cond (b := decide (l62 < (x63.len : Int))) rfl (fun hc64 => ?_) (fun hc64 => ?_)
      · replace h := h.1 hc64
        refine wpC_skip ?_
        refine wpC_seq ?_
        refine wpC_block ?_
        refine wpC_seq ?_
        refine wpC_cut (fun ρ => ρ 2 = (Value.pointer (some (Addr.mk b1 0 none))) ∧ ρ 3 = (Value.pointer (some (Addr.mk b2 0 none))) ∧ ρ 8 = (Value.int .i64 l62) ∧ True) ⟨e2, e3, e8, trivial⟩ ?_
        rintro ρ ⟨e2, e3, e8, -⟩
        obtain ⟨J66, h, hk⟩ := h
        refine wpC_drawJ (by kernel_rfl) (fun (x : Bool) ρ => ρ 53 = (Value.bool x) ∧ ρ 2 = (Value.pointer (some (Addr.mk b1 0 none))) ∧ ρ 3 = (Value.pointer (some (Addr.mk b2 0 none))) ∧ ρ 8 = (Value.int .i64 l62) ∧ True) J66 ?_ ?_
        · clear hk
          unfold tk at h
          generalize w8.drew = w9 at h ⊢
          refine wpD_take (v := (Value.pointer (some ((Addr.mk b1 0 none).add 12)))) 0 (fun _ => True) rfl (by kernel_rfl) (by kernel_rfl) (by kernel_rfl) rfl rfl rfl trivial (fun w _ => (x_fieldAddr rfl e2 FA_24_12)) ?_
          obtain ⟨x67, q67, h⟩ := h
          refine wpD_take (v := (Sl.v x67)) 1 (fun w => w.cell? ((Addr.mk b1 0 none).add 12) = some (Sl.v x67)) rfl (by kernel_rfl) (by kernel_rfl) (by kernel_rfl) rfl rfl rfl q67 (fun w q67 => (x_load1 rfl rfl SH_22 q67)) ?_
          refine wpD_take (v := (Value.int .i64 l62)) 2 (fun _ => True) rfl (by kernel_rfl) (by kernel_rfl) (by kernel_rfl) rfl rfl rfl trivial (fun w _ => (x_move (v := (Value.int .i64 l62)) rfl e8)) ?_
          obtain ⟨q68, z68, r68, h⟩ := h
          generalize hp68 : z68.add ((l62 : Int).toNat * 1) = p68 at h
          refine wpD_take (v := (Value.pointer (some p68))) 3 (fun _ => True) rfl (by kernel_rfl) (by kernel_rfl) (by kernel_rfl) rfl rfl rfl trivial (fun w _ => ((x_indexAddr (s := x67) rfl rfl rfl ES_22 q68 r68).trans (by rw [hp68]))) ?_
          obtain ⟨x69, q69, h⟩ := h
          refine wpD_take (v := (Value.string x69)) 4 (fun w => w.cell? p68 = some (Value.string x69)) rfl (by kernel_rfl) (by kernel_rfl) (by kernel_rfl) rfl rfl rfl q69 (fun w q69 => (x_load1 rfl rfl SH_9 q69)) ?_
          refine wpD_take (v := (Value.pointer (some ((Addr.mk b2 0 none).add 12)))) 5 (fun _ => True) rfl (by kernel_rfl) (by kernel_rfl) (by kernel_rfl) rfl rfl rfl trivial (fun w _ => (x_fieldAddr rfl e3 FA_24_12)) ?_
          obtain ⟨x70, q70, h⟩ := h
          refine wpD_take (v := (Sl.v x70)) 6 (fun w => w.cell? ((Addr.mk b2 0 none).add 12) = some (Sl.v x70)) rfl (by kernel_rfl) (by kernel_rfl) (by kernel_rfl) rfl rfl rfl q70 (fun w q70 => (x_load1 rfl rfl SH_22 q70)) ?_
          refine wpD_take (v := (Value.int .i64 l62)) 7 (fun _ => True) rfl (by kernel_rfl) (by kernel_rfl) (by kernel_rfl) rfl rfl rfl trivial (fun w _ => (x_move (v := (Value.int .i64 l62)) rfl e8)) ?_
          obtain ⟨q71, z71, r71, h⟩ := h
          generalize hp71 : z71.add ((l62 : Int).toNat * 1) = p71 at h
          refine wpD_take (v := (Value.pointer (some p71))) 8 (fun _ => True) rfl (by kernel_rfl) (by kernel_rfl) (by kernel_rfl) rfl rfl rfl trivial (fun w _ => ((x_indexAddr (s := x70) rfl rfl rfl ES_22 q71 r71).trans (by rw [hp71]))) ?_
          obtain ⟨x72, q72, h⟩ := h
          refine wpD_take (v := (Value.string x72)) 9 (fun w => w.cell? p71 = some (Value.string x72)) rfl (by kernel_rfl) (by kernel_rfl) (by kernel_rfl) rfl rfl rfl q72 (fun w q72 => (x_load1 rfl rfl SH_9 q72)) ?_
          refine wpD_take (v := (Value.bool (!beqS x69 x72))) 10 (fun _ => True) rfl (by kernel_rfl) (by kernel_rfl) (by kernel_rfl) rfl rfl rfl trivial (fun w _ => (x_neqS rfl rfl rfl)) ?_
          exact wpD_done (by kernel_rfl) ⟨!beqS x69 x72, ⟨rfl, e2, e3, e8, trivial⟩, h⟩
        clear h
        rintro l73 ρ w10 ⟨e53, e2, e3, e8, -⟩ h
        replace h := hk l73 w10 h
        clear hk
        refine wpC_cond (b := l73) e53 (fun hc74 => ?_) (fun hc74 => ?_)
        · replace h := h.1 hc74
          refine wpC_seq ?_
          refine wpC_region ?_
          refine wpR_val (v := (Value.bool false)) (w' := w10) rfl rfl rfl (x_assign (v := (Value.bool false)) rfl rfl) ?_
          refine wpR_nil ?_
          refine wpC_ret ?_
          exact ⟨.inl rfl, fun a ha => ⟨_, results_rep1 rfl ha rfl, false, rfl, h⟩⟩
        · replace h := h.2 hc74
          refine wpC_skip ?_
          refine wpC_region ?_
          refine wpR_val (v := (Value.int .i64 l62)) (w' := w10) rfl rfl rfl (x_move (v := (Value.int .i64 l62)) rfl e8) ?_
          refine wpR_val (v := (Value.int .i64 (IntKind.i64.wrap (l62 + 1)))) (w' := w10) rfl rfl rfl (x_add rfl rfl rfl) ?_
          refine wpR_val (v := (Value.int .i64 (IntKind.i64.wrap (l62 + 1)))) (w' := w10) rfl rfl rfl (x_assign (v := (Value.int .i64 (IntKind.i64.wrap (l62 + 1)))) rfl rfl) ?_
          refine wpR_nil ?_
          exact ⟨IntKind.i64.wrap (l62 + 1), ⟨rfl, e2, e3, trivial⟩, h⟩
      · replace h := h.2 hc64
        refine wpC_exit ?_
        refine wpC_seq ?_
        refine wpC_cut (fun ρ => ρ 2 = (Value.pointer (some (Addr.mk b1 0 none))) ∧ ρ 3 = (Value.pointer (some (Addr.mk b2 0 none))) ∧ True) ⟨e2, e3, trivial⟩ ?_
        rintro ρ ⟨e2, e3, -⟩
        refine wpC_region ?_
        refine wpR_val (v := (Value.pointer (some ((Addr.mk b1 0 none).add 0)))) (w' := w8) rfl rfl rfl (x_fieldAddr rfl e2 FA_24_0) ?_
        obtain ⟨x75, q75, h⟩ := h
        refine wpR_val (v := (Value.string x75)) (w' := w8) rfl rfl rfl (x_load1 rfl rfl SH_9 q75) ?_
        refine wpR_val (v := (Value.pointer (some ((Addr.mk b2 0 none).add 0)))) (w' := w8) rfl rfl rfl (x_fieldAddr rfl e3 FA_24_0) ?_
        obtain ⟨x76, q76, h⟩ := h
        refine wpR_val (v := (Value.string x76)) (w' := w8) rfl rfl rfl (x_load1 rfl rfl SH_9 q76) ?_
        refine wpR_val (v := (Value.bool (beqS x75 x76))) (w' := w8) rfl rfl rfl (x_eqlS rfl rfl rfl) ?_
        refine wpR_val (v := (Value.bool (beqS x75 x76))) (w' := w8) rfl rfl rfl (x_move (v := (Value.bool (beqS x75 x76))) rfl rfl) ?_
        obtain ⟨J77, h, hk⟩ := h
        refine wpR_joinJ 6 (fun x ρ => ρ 65 = Value.bool x ∧ ρ 2 = (Value.pointer (some (Addr.mk b1 0 none))) ∧ ρ 3 = (Value.pointer (some (Addr.mk b2 0 none))) ∧ True) (fun x w => J77 x ∧ w8 = w) ?_ ?_
        · clear hk
          rcases Bool.eq_false_or_eq_true (beqS x75 x76) with hc78 | hc78
          · replace h := h.1 hc78
            refine wpR_val (v := (Value.pointer (some ((Addr.mk b1 0 none).add 2)))) (w' := w8) (wantG rfl rfl rfl hc78) rfl rfl (x_fieldAddr rfl e2 FA_24_2) ?_
            obtain ⟨x79, q79, h⟩ := h
            refine wpR_val (v := (Value.int .i64 x79)) (w' := w8) (wantG rfl rfl rfl hc78) rfl rfl (x_load1 rfl rfl SH_3 q79) ?_
            refine wpR_val (v := (Value.pointer (some ((Addr.mk b2 0 none).add 2)))) (w' := w8) (wantG rfl rfl rfl hc78) rfl rfl (x_fieldAddr rfl e3 FA_24_2) ?_
            obtain ⟨x80, q80, h⟩ := h
            refine wpR_val (v := (Value.int .i64 x80)) (w' := w8) (wantG rfl rfl rfl hc78) rfl rfl (x_load1 rfl rfl SH_3 q80) ?_
            refine wpR_val (v := (Value.bool (decide (x79 = x80)))) (w' := w8) (wantG rfl rfl rfl hc78) rfl rfl (x_eql rfl rfl rfl) ?_
            refine wpR_val (v := (Value.bool (decide (x79 = x80)))) (w' := w8) rfl rfl rfl (x_pickT (v := (Value.bool (decide (x79 = x80)))) rfl rfl hc78 rfl) ?_
            refine wpR_nil ?_
            exact ⟨decide (x79 = x80), ⟨rfl, e2, e3, trivial⟩, h, rfl⟩
          · replace h := h.2 hc78
            refine wpR_pass (wantN rfl rfl rfl hc78) rfl rfl ?_
            refine wpR_pass (wantN rfl rfl rfl hc78) rfl rfl ?_
            refine wpR_pass (wantN rfl rfl rfl hc78) rfl rfl ?_
            refine wpR_pass (wantN rfl rfl rfl hc78) rfl rfl ?_
            refine wpR_pass (wantN rfl rfl rfl hc78) rfl rfl ?_
            refine wpR_val (v := (Value.bool false)) (w' := w8) rfl rfl rfl (x_pickF (v := (Value.bool false)) rfl rfl hc78 rfl) ?_
            refine wpR_nil ?_
            exact ⟨false, ⟨rfl, e2, e3, trivial⟩, h, rfl⟩
        clear h
        rintro c81 ρ wj ⟨e65, e2, e3, -⟩ ⟨h, rfl⟩
        replace h := hk c81 h
        clear hk
        refine wpR_val (v := (Value.bool c81)) (w' := w8) rfl rfl rfl (x_move (v := (Value.bool c81)) rfl e65) ?_
        obtain ⟨J82, h, hk⟩ := h
        refine wpR_joinJ 6 (fun x ρ => ρ 72 = Value.bool x ∧ ρ 2 = (Value.pointer (some (Addr.mk b1 0 none))) ∧ ρ 3 = (Value.pointer (some (Addr.mk b2 0 none))) ∧ True) (fun x w => J82 x ∧ w8 = w) ?_ ?_
        · clear hk
          rcases Bool.eq_false_or_eq_true (c81) with hc83 | hc83
          · replace h := h.1 hc83
            refine wpR_val (v := (Value.pointer (some ((Addr.mk b1 0 none).add 13)))) (w' := w8) (wantG rfl rfl rfl hc83) rfl rfl (x_fieldAddr rfl e2 FA_24_13) ?_
            obtain ⟨x84, q84, h⟩ := h
            refine wpR_val (v := (Value.int .i64 x84)) (w' := w8) (wantG rfl rfl rfl hc83) rfl rfl (x_load1 rfl rfl SH_3 q84) ?_
            refine wpR_val (v := (Value.pointer (some ((Addr.mk b2 0 none).add 13)))) (w' := w8) (wantG rfl rfl rfl hc83) rfl rfl (x_fieldAddr rfl e3 FA_24_13) ?_
            obtain ⟨x85, q85, h⟩ := h
            refine wpR_val (v := (Value.int .i64 x85)) (w' := w8) (wantG rfl rfl rfl hc83) rfl rfl (x_load1 rfl rfl SH_3 q85) ?_
            refine wpR_val (v := (Value.bool (decide (x84 = x85)))) (w' := w8) (wantG rfl rfl rfl hc83) rfl rfl (x_eql rfl rfl rfl) ?_
            refine wpR_val (v := (Value.bool (decide (x84 = x85)))) (w' := w8) rfl rfl rfl (x_pickT (v := (Value.bool (decide (x84 = x85)))) rfl rfl hc83 rfl) ?_
            refine wpR_nil ?_
            exact ⟨decide (x84 = x85), ⟨rfl, e2, e3, trivial⟩, h, rfl⟩
          · replace h := h.2 hc83
            refine wpR_pass (wantN rfl rfl rfl hc83) rfl rfl ?_
            refine wpR_pass (wantN rfl rfl rfl hc83) rfl rfl ?_
            refine wpR_pass (wantN rfl rfl rfl hc83) rfl rfl ?_
            refine wpR_pass (wantN rfl rfl rfl hc83) rfl rfl ?_
            refine wpR_pass (wantN rfl rfl rfl hc83) rfl rfl ?_
            refine wpR_val (v := (Value.bool false)) (w' := w8) rfl rfl rfl (x_pickF (v := (Value.bool false)) rfl rfl hc83 rfl) ?_
            refine wpR_nil ?_
            exact ⟨false, ⟨rfl, e2, e3, trivial⟩, h, rfl⟩
        clear h
        rintro c86 ρ wj ⟨e72, e2, e3, -⟩ ⟨h, rfl⟩
        replace h := hk c86 h
        clear hk
        refine wpR_val (v := (Value.bool c86)) (w' := w8) rfl rfl rfl (x_move (v := (Value.bool c86)) rfl e72) ?_
        obtain ⟨J87, h, hk⟩ := h
        refine wpR_joinJ 6 (fun x ρ => ρ 79 = Value.bool x ∧ ρ 2 = (Value.pointer (some (Addr.mk b1 0 none))) ∧ ρ 3 = (Value.pointer (some (Addr.mk b2 0 none))) ∧ True) (fun x w => J87 x ∧ w8 = w) ?_ ?_
        · clear hk
          rcases Bool.eq_false_or_eq_true (c86) with hc88 | hc88
          · replace h := h.1 hc88
            refine wpR_val (v := (Value.pointer (some ((Addr.mk b1 0 none).add 14)))) (w' := w8) (wantG rfl rfl rfl hc88) rfl rfl (x_fieldAddr rfl e2 FA_24_14) ?_
            obtain ⟨x89, q89, h⟩ := h
            refine wpR_val (v := (Value.int .i64 x89)) (w' := w8) (wantG rfl rfl rfl hc88) rfl rfl (x_load1 rfl rfl SH_3 q89) ?_
            refine wpR_val (v := (Value.pointer (some ((Addr.mk b2 0 none).add 14)))) (w' := w8) (wantG rfl rfl rfl hc88) rfl rfl (x_fieldAddr rfl e3 FA_24_14) ?_
            obtain ⟨x90, q90, h⟩ := h
            refine wpR_val (v := (Value.int .i64 x90)) (w' := w8) (wantG rfl rfl rfl hc88) rfl rfl (x_load1 rfl rfl SH_3 q90) ?_
            refine wpR_val (v := (Value.bool (decide (x89 = x90)))) (w' := w8) (wantG rfl rfl rfl hc88) rfl rfl (x_eql rfl rfl rfl) ?_
            refine wpR_val (v := (Value.bool (decide (x89 = x90)))) (w' := w8) rfl rfl rfl (x_pickT (v := (Value.bool (decide (x89 = x90)))) rfl rfl hc88 rfl) ?_
            refine wpR_nil ?_
            exact ⟨decide (x89 = x90), ⟨rfl, e2, e3, trivial⟩, h, rfl⟩
          · replace h := h.2 hc88
            refine wpR_pass (wantN rfl rfl rfl hc88) rfl rfl ?_
            refine wpR_pass (wantN rfl rfl rfl hc88) rfl rfl ?_
            refine wpR_pass (wantN rfl rfl rfl hc88) rfl rfl ?_
            refine wpR_pass (wantN rfl rfl rfl hc88) rfl rfl ?_
            refine wpR_pass (wantN rfl rfl rfl hc88) rfl rfl ?_
            refine wpR_val (v := (Value.bool false)) (w' := w8) rfl rfl rfl (x_pickF (v := (Value.bool false)) rfl rfl hc88 rfl) ?_
            refine wpR_nil ?_
            exact ⟨false, ⟨rfl, e2, e3, trivial⟩, h, rfl⟩
        clear h
        rintro c91 ρ wj ⟨e79, e2, e3, -⟩ ⟨h, rfl⟩
        replace h := hk c91 h
        clear hk
        refine wpR_val (v := (Value.bool c91)) (w' := w8) rfl rfl rfl (x_move (v := (Value.bool c91)) rfl e79) ?_
        obtain ⟨J92, h, hk⟩ := h
        refine wpR_joinJ 6 (fun x ρ => ρ 86 = Value.bool x ∧ ρ 2 = (Value.pointer (some (Addr.mk b1 0 none))) ∧ ρ 3 = (Value.pointer (some (Addr.mk b2 0 none))) ∧ True) (fun x w => J92 x ∧ w8 = w) ?_ ?_
        · clear hk
          rcases Bool.eq_false_or_eq_true (c91) with hc93 | hc93
          · replace h := h.1 hc93
            refine wpR_val (v := (Value.pointer (some ((Addr.mk b1 0 none).add 15)))) (w' := w8) (wantG rfl rfl rfl hc93) rfl rfl (x_fieldAddr rfl e2 FA_24_15) ?_
            obtain ⟨x94, q94, h⟩ := h
            refine wpR_val (v := (Value.int .i64 x94)) (w' := w8) (wantG rfl rfl rfl hc93) rfl rfl (x_load1 rfl rfl SH_3 q94) ?_
            refine wpR_val (v := (Value.pointer (some ((Addr.mk b2 0 none).add 15)))) (w' := w8) (wantG rfl rfl rfl hc93) rfl rfl (x_fieldAddr rfl e3 FA_24_15) ?_
            obtain ⟨x95, q95, h⟩ := h
            refine wpR_val (v := (Value.int .i64 x95)) (w' := w8) (wantG rfl rfl rfl hc93) rfl rfl (x_load1 rfl rfl SH_3 q95) ?_
            refine wpR_val (v := (Value.bool (decide (x94 = x95)))) (w' := w8) (wantG rfl rfl rfl hc93) rfl rfl (x_eql rfl rfl rfl) ?_
            refine wpR_val (v := (Value.bool (decide (x94 = x95)))) (w' := w8) rfl rfl rfl (x_pickT (v := (Value.bool (decide (x94 = x95)))) rfl rfl hc93 rfl) ?_
            refine wpR_nil ?_
            exact ⟨decide (x94 = x95), ⟨rfl, e2, e3, trivial⟩, h, rfl⟩
          · replace h := h.2 hc93
            refine wpR_pass (wantN rfl rfl rfl hc93) rfl rfl ?_
            refine wpR_pass (wantN rfl rfl rfl hc93) rfl rfl ?_
            refine wpR_pass (wantN rfl rfl rfl hc93) rfl rfl ?_
            refine wpR_pass (wantN rfl rfl rfl hc93) rfl rfl ?_
            refine wpR_pass (wantN rfl rfl rfl hc93) rfl rfl ?_
            refine wpR_val (v := (Value.bool false)) (w' := w8) rfl rfl rfl (x_pickF (v := (Value.bool false)) rfl rfl hc93 rfl) ?_
            refine wpR_nil ?_
            exact ⟨false, ⟨rfl, e2, e3, trivial⟩, h, rfl⟩
        clear h
        rintro c96 ρ wj ⟨e86, e2, e3, -⟩ ⟨h, rfl⟩
        replace h := hk c96 h
        clear hk
        refine wpR_val (v := (Value.bool c96)) (w' := w8) rfl rfl rfl (x_assign (v := (Value.bool c96)) rfl e86) ?_
        refine wpR_nil ?_
        refine wpC_seq ?_
        refine wpC_cut (fun ρ => ρ 2 = (Value.pointer (some (Addr.mk b1 0 none))) ∧ ρ 3 = (Value.pointer (some (Addr.mk b2 0 none))) ∧ ρ 9 = (Value.bool c96) ∧ True) ⟨e2, e3, rfl, trivial⟩ ?_
        rintro ρ ⟨e2, e3, e9, -⟩
        refine wpC_region ?_
        refine wpR_val (v := (Value.bool c96)) (w' := w8) rfl rfl rfl (x_move (v := (Value.bool c96)) rfl e9) ?_
        refine wpR_val (v := (Value.bool c96)) (w' := w8) rfl rfl rfl (x_move (v := (Value.bool c96)) rfl rfl) ?_
        obtain ⟨J97, h, hk⟩ := h
        refine wpR_joinJ 6 (fun x ρ => ρ 94 = Value.bool x ∧ ρ 2 = (Value.pointer (some (Addr.mk b1 0 none))) ∧ ρ 3 = (Value.pointer (some (Addr.mk b2 0 none))) ∧ True) (fun x w => J97 x ∧ w8 = w) ?_ ?_
        · clear hk
          rcases Bool.eq_false_or_eq_true (c96) with hc98 | hc98
          · replace h := h.1 hc98
            refine wpR_val (v := (Value.pointer (some ((Addr.mk b1 0 none).add 17)))) (w' := w8) (wantG rfl rfl rfl hc98) rfl rfl (x_fieldAddr rfl e2 FA_24_17) ?_
            obtain ⟨x99, q99, h⟩ := h
            refine wpR_val (v := (Value.bool x99)) (w' := w8) (wantG rfl rfl rfl hc98) rfl rfl (x_load1 rfl rfl SH_4 q99) ?_
            refine wpR_val (v := (Value.pointer (some ((Addr.mk b2 0 none).add 17)))) (w' := w8) (wantG rfl rfl rfl hc98) rfl rfl (x_fieldAddr rfl e3 FA_24_17) ?_
            obtain ⟨x100, q100, h⟩ := h
            refine wpR_val (v := (Value.bool x100)) (w' := w8) (wantG rfl rfl rfl hc98) rfl rfl (x_load1 rfl rfl SH_4 q100) ?_
            refine wpR_val (v := (Value.bool (x99 == x100))) (w' := w8) (wantG rfl rfl rfl hc98) rfl rfl (x_eqlB rfl rfl rfl isBoolT_4) ?_
            refine wpR_val (v := (Value.bool (x99 == x100))) (w' := w8) rfl rfl rfl (x_pickT (v := (Value.bool (x99 == x100))) rfl rfl hc98 rfl) ?_
            refine wpR_nil ?_
            exact ⟨x99 == x100, ⟨rfl, e2, e3, trivial⟩, h, rfl⟩
          · replace h := h.2 hc98
            refine wpR_pass (wantN rfl rfl rfl hc98) rfl rfl ?_
            refine wpR_pass (wantN rfl rfl rfl hc98) rfl rfl ?_
            refine wpR_pass (wantN rfl rfl rfl hc98) rfl rfl ?_
            refine wpR_pass (wantN rfl rfl rfl hc98) rfl rfl ?_
            refine wpR_pass (wantN rfl rfl rfl hc98) rfl rfl ?_
            refine wpR_val (v := (Value.bool false)) (w' := w8) rfl rfl rfl (x_pickF (v := (Value.bool false)) rfl rfl hc98 rfl) ?_
            refine wpR_nil ?_
            exact ⟨false, ⟨rfl, e2, e3, trivial⟩, h, rfl⟩
        clear h
        rintro c101 ρ wj ⟨e94, e2, e3, -⟩ ⟨h, rfl⟩
        replace h := hk c101 h
        clear hk
        refine wpR_val (v := (Value.bool c101)) (w' := w8) rfl rfl rfl (x_move (v := (Value.bool c101)) rfl e94) ?_
        obtain ⟨J102, h, hk⟩ := h
        refine wpR_joinJ 6 (fun x ρ => ρ 101 = Value.bool x ∧ ρ 2 = (Value.pointer (some (Addr.mk b1 0 none))) ∧ ρ 3 = (Value.pointer (some (Addr.mk b2 0 none))) ∧ True) (fun x w => J102 x ∧ w8 = w) ?_ ?_
        · clear hk
          rcases Bool.eq_false_or_eq_true (c101) with hc103 | hc103
          · replace h := h.1 hc103
            refine wpR_val (v := (Value.pointer (some ((Addr.mk b1 0 none).add 18)))) (w' := w8) (wantG rfl rfl rfl hc103) rfl rfl (x_fieldAddr rfl e2 FA_24_18) ?_
            obtain ⟨x104, q104, h⟩ := h
            refine wpR_val (v := (Value.int .i64 x104)) (w' := w8) (wantG rfl rfl rfl hc103) rfl rfl (x_load1 rfl rfl SH_3 q104) ?_
            refine wpR_val (v := (Value.pointer (some ((Addr.mk b2 0 none).add 18)))) (w' := w8) (wantG rfl rfl rfl hc103) rfl rfl (x_fieldAddr rfl e3 FA_24_18) ?_
            obtain ⟨x105, q105, h⟩ := h
            refine wpR_val (v := (Value.int .i64 x105)) (w' := w8) (wantG rfl rfl rfl hc103) rfl rfl (x_load1 rfl rfl SH_3 q105) ?_
            refine wpR_val (v := (Value.bool (decide (x104 = x105)))) (w' := w8) (wantG rfl rfl rfl hc103) rfl rfl (x_eql rfl rfl rfl) ?_
            refine wpR_val (v := (Value.bool (decide (x104 = x105)))) (w' := w8) rfl rfl rfl (x_pickT (v := (Value.bool (decide (x104 = x105)))) rfl rfl hc103 rfl) ?_
            refine wpR_nil ?_
            exact ⟨decide (x104 = x105), ⟨rfl, e2, e3, trivial⟩, h, rfl⟩
          · replace h := h.2 hc103
            refine wpR_pass (wantN rfl rfl rfl hc103) rfl rfl ?_
            refine wpR_pass (wantN rfl rfl rfl hc103) rfl rfl ?_
            refine wpR_pass (wantN rfl rfl rfl hc103) rfl rfl ?_
            refine wpR_pass (wantN rfl rfl rfl hc103) rfl rfl ?_
            refine wpR_pass (wantN rfl rfl rfl hc103) rfl rfl ?_
            refine wpR_val (v := (Value.bool false)) (w' := w8) rfl rfl rfl (x_pickF (v := (Value.bool false)) rfl rfl hc103 rfl) ?_
            refine wpR_nil ?_
            exact ⟨false, ⟨rfl, e2, e3, trivial⟩, h, rfl⟩
        clear h
        rintro c106 ρ wj ⟨e101, e2, e3, -⟩ ⟨h, rfl⟩
        replace h := hk c106 h
        clear hk
        refine wpR_val (v := (Value.bool c106)) (w' := w8) rfl rfl rfl (x_move (v := (Value.bool c106)) rfl e101) ?_
        obtain ⟨J107, h, hk⟩ := h
        refine wpR_joinJ 6 (fun x ρ => ρ 108 = Value.bool x ∧ ρ 2 = (Value.pointer (some (Addr.mk b1 0 none))) ∧ ρ 3 = (Value.pointer (some (Addr.mk b2 0 none))) ∧ True) (fun x w => J107 x ∧ w8 = w) ?_ ?_
        · clear hk
          rcases Bool.eq_false_or_eq_true (c106) with hc108 | hc108
          · replace h := h.1 hc108
            refine wpR_val (v := (Value.pointer (some ((Addr.mk b1 0 none).add 19)))) (w' := w8) (wantG rfl rfl rfl hc108) rfl rfl (x_fieldAddr rfl e2 FA_24_19) ?_
            obtain ⟨x109, q109, h⟩ := h
            refine wpR_val (v := (Value.int .i64 x109)) (w' := w8) (wantG rfl rfl rfl hc108) rfl rfl (x_load1 rfl rfl SH_3 q109) ?_
            refine wpR_val (v := (Value.pointer (some ((Addr.mk b2 0 none).add 19)))) (w' := w8) (wantG rfl rfl rfl hc108) rfl rfl (x_fieldAddr rfl e3 FA_24_19) ?_
            obtain ⟨x110, q110, h⟩ := h
            refine wpR_val (v := (Value.int .i64 x110)) (w' := w8) (wantG rfl rfl rfl hc108) rfl rfl (x_load1 rfl rfl SH_3 q110) ?_
            refine wpR_val (v := (Value.bool (decide (x109 = x110)))) (w' := w8) (wantG rfl rfl rfl hc108) rfl rfl (x_eql rfl rfl rfl) ?_
            refine wpR_val (v := (Value.bool (decide (x109 = x110)))) (w' := w8) rfl rfl rfl (x_pickT (v := (Value.bool (decide (x109 = x110)))) rfl rfl hc108 rfl) ?_
            refine wpR_nil ?_
            exact ⟨decide (x109 = x110), ⟨rfl, e2, e3, trivial⟩, h, rfl⟩
          · replace h := h.2 hc108
            refine wpR_pass (wantN rfl rfl rfl hc108) rfl rfl ?_
            refine wpR_pass (wantN rfl rfl rfl hc108) rfl rfl ?_
            refine wpR_pass (wantN rfl rfl rfl hc108) rfl rfl ?_
            refine wpR_pass (wantN rfl rfl rfl hc108) rfl rfl ?_
            refine wpR_pass (wantN rfl rfl rfl hc108) rfl rfl ?_
            refine wpR_val (v := (Value.bool false)) (w' := w8) rfl rfl rfl (x_pickF (v := (Value.bool false)) rfl rfl hc108 rfl) ?_
            refine wpR_nil ?_
            exact ⟨false, ⟨rfl, e2, e3, trivial⟩, h, rfl⟩
        clear h
        rintro c111 ρ wj ⟨e108, e2, e3, -⟩ ⟨h, rfl⟩
        replace h := hk c111 h
        clear hk
        refine wpR_val (v := (Value.bool c111)) (w' := w8) rfl rfl rfl (x_move (v := (Value.bool c111)) rfl e108) ?_
        obtain ⟨J112, h, hk⟩ := h
        refine wpR_joinJ 6 (fun x ρ => ρ 115 = Value.bool x ∧ ρ 2 = (Value.pointer (some (Addr.mk b1 0 none))) ∧ ρ 3 = (Value.pointer (some (Addr.mk b2 0 none))) ∧ True) (fun x w => J112 x ∧ w8 = w) ?_ ?_
        · clear hk
          rcases Bool.eq_false_or_eq_true (c111) with hc113 | hc113
          · replace h := h.1 hc113
            refine wpR_val (v := (Value.pointer (some ((Addr.mk b1 0 none).add 20)))) (w' := w8) (wantG rfl rfl rfl hc113) rfl rfl (x_fieldAddr rfl e2 FA_24_20) ?_
            obtain ⟨x114, q114, h⟩ := h
            refine wpR_val (v := (Value.int .i64 x114)) (w' := w8) (wantG rfl rfl rfl hc113) rfl rfl (x_load1 rfl rfl SH_3 q114) ?_
            refine wpR_val (v := (Value.pointer (some ((Addr.mk b2 0 none).add 20)))) (w' := w8) (wantG rfl rfl rfl hc113) rfl rfl (x_fieldAddr rfl e3 FA_24_20) ?_
            obtain ⟨x115, q115, h⟩ := h
            refine wpR_val (v := (Value.int .i64 x115)) (w' := w8) (wantG rfl rfl rfl hc113) rfl rfl (x_load1 rfl rfl SH_3 q115) ?_
            refine wpR_val (v := (Value.bool (decide (x114 = x115)))) (w' := w8) (wantG rfl rfl rfl hc113) rfl rfl (x_eql rfl rfl rfl) ?_
            refine wpR_val (v := (Value.bool (decide (x114 = x115)))) (w' := w8) rfl rfl rfl (x_pickT (v := (Value.bool (decide (x114 = x115)))) rfl rfl hc113 rfl) ?_
            refine wpR_nil ?_
            exact ⟨decide (x114 = x115), ⟨rfl, e2, e3, trivial⟩, h, rfl⟩
          · replace h := h.2 hc113
            refine wpR_pass (wantN rfl rfl rfl hc113) rfl rfl ?_
            refine wpR_pass (wantN rfl rfl rfl hc113) rfl rfl ?_
            refine wpR_pass (wantN rfl rfl rfl hc113) rfl rfl ?_
            refine wpR_pass (wantN rfl rfl rfl hc113) rfl rfl ?_
            refine wpR_pass (wantN rfl rfl rfl hc113) rfl rfl ?_
            refine wpR_val (v := (Value.bool false)) (w' := w8) rfl rfl rfl (x_pickF (v := (Value.bool false)) rfl rfl hc113 rfl) ?_
            refine wpR_nil ?_
            exact ⟨false, ⟨rfl, e2, e3, trivial⟩, h, rfl⟩
        clear h
        rintro c116 ρ wj ⟨e115, e2, e3, -⟩ ⟨h, rfl⟩
        replace h := hk c116 h
        clear hk
        refine wpR_val (v := (Value.bool c116)) (w' := w8) rfl rfl rfl (x_move (v := (Value.bool c116)) rfl e115) ?_
        obtain ⟨J117, h, hk⟩ := h
        refine wpR_joinJ 6 (fun x ρ => ρ 122 = Value.bool x ∧ True) (fun x w => J117 x ∧ w8 = w) ?_ ?_
        · clear hk
          rcases Bool.eq_false_or_eq_true (c116) with hc118 | hc118
          · replace h := h.1 hc118
            refine wpR_val (v := (Value.pointer (some ((Addr.mk b1 0 none).add 21)))) (w' := w8) (wantG rfl rfl rfl hc118) rfl rfl (x_fieldAddr rfl e2 FA_24_21) ?_
            obtain ⟨x119, q119, h⟩ := h
            refine wpR_val (v := (Value.int .i64 x119)) (w' := w8) (wantG rfl rfl rfl hc118) rfl rfl (x_load1 rfl rfl SH_3 q119) ?_
            refine wpR_val (v := (Value.pointer (some ((Addr.mk b2 0 none).add 21)))) (w' := w8) (wantG rfl rfl rfl hc118) rfl rfl (x_fieldAddr rfl e3 FA_24_21) ?_
            obtain ⟨x120, q120, h⟩ := h
            refine wpR_val (v := (Value.int .i64 x120)) (w' := w8) (wantG rfl rfl rfl hc118) rfl rfl (x_load1 rfl rfl SH_3 q120) ?_
            refine wpR_val (v := (Value.bool (decide (x119 = x120)))) (w' := w8) (wantG rfl rfl rfl hc118) rfl rfl (x_eql rfl rfl rfl) ?_
            refine wpR_val (v := (Value.bool (decide (x119 = x120)))) (w' := w8) rfl rfl rfl (x_pickT (v := (Value.bool (decide (x119 = x120)))) rfl rfl hc118 rfl) ?_
            refine wpR_nil ?_
            exact ⟨decide (x119 = x120), ⟨rfl, trivial⟩, h, rfl⟩
          · replace h := h.2 hc118
            refine wpR_pass (wantN rfl rfl rfl hc118) rfl rfl ?_
            refine wpR_pass (wantN rfl rfl rfl hc118) rfl rfl ?_
            refine wpR_pass (wantN rfl rfl rfl hc118) rfl rfl ?_
            refine wpR_pass (wantN rfl rfl rfl hc118) rfl rfl ?_
            refine wpR_pass (wantN rfl rfl rfl hc118) rfl rfl ?_
            refine wpR_val (v := (Value.bool false)) (w' := w8) rfl rfl rfl (x_pickF (v := (Value.bool false)) rfl rfl hc118 rfl) ?_
            refine wpR_nil ?_
            exact ⟨false, ⟨rfl, trivial⟩, h, rfl⟩
        clear h
        rintro c121 ρ wj ⟨e122, -⟩ ⟨h, rfl⟩
        replace h := hk c121 h
        clear hk
        refine wpR_val (v := (Value.bool c121)) (w' := w8) rfl rfl rfl (x_assign (v := (Value.bool c121)) rfl e122) ?_
        refine wpR_nil ?_
        refine wpC_ret ?_
        exact ⟨.inl rfl, fun a ha => ⟨_, results_rep1 rfl ha rfl, c121, rfl, h⟩⟩


end Go.Proofs.Ytadlnbdelkbboaa
