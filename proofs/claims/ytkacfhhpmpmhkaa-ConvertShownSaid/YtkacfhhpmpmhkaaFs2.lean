import Derived.Test.YtkacfhhpmpmhkaaRows
import Derived.Test.YtkacfhhpmpmhkaaFs1
import Derived.Test.YtkacfhhpmpmhkaaDecRaw
namespace Go.Proofs.Ytkacfhhpmpmhkaa
open Go.Dec
set_option maxHeartbeats 400000
set_option maxRecDepth 100000

/-- lingualaw39.ConvertShown -/
def F7 (p0 : Sl) (p1 : ByteArray) (p2 : Int) (p3_0 : ByteArray) (p3_1 : Int) (p3_2 : Int) (p3_3 : Int) (p3_4 : Bool) (p3_5 : Int) (p3_6 : Bool) (p3_7 : Bool) (p3_8 : Int) (p3_9 : Int) (p3_10 : Int) (p3_11 : Int) (p3_12 : Sl) (p3_13 : Int) (p3_14 : Int) (p3_15 : Int) (p3_16 : Int) (p3_17 : Bool) (p3_18 : Int) (p3_19 : Int) (p3_20 : Int) (p3_21 : Int) (p4_0 : ByteArray) (p4_1 : Int) (p4_2 : Int) (p4_3 : Int) (p4_4 : Bool) (p4_5 : Int) (p4_6 : Bool) (p4_7 : Bool) (p4_8 : Int) (p4_9 : Int) (p4_10 : Int) (p4_11 : Int) (p4_12 : Sl) (p4_13 : Int) (p4_14 : Int) (p4_15 : Int) (p4_16 : Int) (p4_17 : Bool) (p4_18 : Int) (p4_19 : Int) (p4_20 : Int) (p4_21 : Int) (w0 : World) (K : Bool → World → Prop) : Prop :=
  nw 39 (A38 p3_0 p3_1 p3_2 p3_3 p3_4 p3_5 p3_6 p3_7 p3_8 p3_9 p3_10 p3_11 p3_12 p3_13 p3_14 p3_15 p3_16 p3_17 p3_18 p3_19 p3_20 p3_21) w0 fun b9 w1 =>
  nw 39 (A38 p4_0 p4_1 p4_2 p4_3 p4_4 p4_5 p4_6 p4_7 p4_8 p4_9 p4_10 p4_11 p4_12 p4_13 p4_14 p4_15 p4_16 p4_17 p4_18 p4_19 p4_20 p4_21) w1 fun b10 w2 =>
  callC Try.prog 8 #[] (fun (r : Bool) => (Value.bool r)) w2 fun r11 w3 =>
  L38 (Addr.mk b9 0 none) w3 fun x12 x13 x14 x15 x16 x17 x18 x19 x20 x21 x22 x23 x24 x25 x26 x27 x28 x29 x30 x31 x32 x33 =>
  callC Try.prog 14 #[(V38 x12 x13 x14 x15 x16 x17 x18 x19 x20 x21 x22 x23 x24 x25 x26 x27 x28 x29 x30 x31 x32 x33)] (fun (r : Bool) => (Value.bool r)) w3 fun r34 w4 =>
  jn (fun J35 => cnd (!r34)
    (
    J35 true w4
    )
    (
    L38 (Addr.mk b10 0 none) w4 fun x37 x38 x39 x40 x41 x42 x43 x44 x45 x46 x47 x48 x49 x50 x51 x52 x53 x54 x55 x56 x57 x58 =>
    callC Try.prog 14 #[(V38 x37 x38 x39 x40 x41 x42 x43 x44 x45 x46 x47 x48 x49 x50 x51 x52 x53 x54 x55 x56 x57 x58)] (fun (r : Bool) => (Value.bool r)) w4 fun r59 w5 =>
    J35 (!r59) w5
    ))
  fun c60 w6 =>
  jn (fun J61 => cnd (c60)
    (
    J61 true w6
    )
    (
    callC Try.prog 9 #[(Sl.v p0), (Value.string p1), (Sl.v Sl.nil)] (fun (r : Bool) => (Value.bool r)) w6 fun r63 w7 =>
    J61 (!r63) w7
    ))
  fun c64 w8 =>
  cnd (c64)
    (
    K r11 w8
    )
    (
    L38 (Addr.mk b9 0 none) w8 fun x66 x67 x68 x69 x70 x71 x72 x73 x74 x75 x76 x77 x78 x79 x80 x81 x82 x83 x84 x85 x86 x87 =>
    callC Try.prog 18 #[(V38 x66 x67 x68 x69 x70 x71 x72 x73 x74 x75 x76 x77 x78 x79 x80 x81 x82 x83 x84 x85 x86 x87)] (fun (r : Int) => (Value.int .i64 r)) w8 fun r88 w9 =>
    jn (fun J89 => cnd (!decide (r88 = 0))
      (
      J89 true w9
      )
      (
      L38 (Addr.mk b10 0 none) w9 fun x91 x92 x93 x94 x95 x96 x97 x98 x99 x100 x101 x102 x103 x104 x105 x106 x107 x108 x109 x110 x111 x112 =>
      callC Try.prog 18 #[(V38 x91 x92 x93 x94 x95 x96 x97 x98 x99 x100 x101 x102 x103 x104 x105 x106 x107 x108 x109 x110 x111 x112)] (fun (r : Int) => (Value.int .i64 r)) w9 fun r113 w10 =>
      J89 (!decide (r113 = 0)) w10
      ))
    fun c114 w11 =>
    cnd (c114)
      (
      K r11 w11
      )
      (
      ld Sl.v ((Addr.mk b9 0 none).add 12) w11 fun x116 =>
      callC Try.prog 10 #[(Sl.v p0), (Value.string p1), (Sl.v x116), (Value.int .i64 p2)] (fun (r : Sl × Bool) => (Value.tuple #[(Sl.v r.1), (Value.bool r.2)])) w11 fun r117 w12 =>
      jn (fun (J118 : Unit → World → Prop) =>
        cnd (r117.2)
          (
          callC Try.prog 11 #[(Sl.v p0), (Value.string p1), (Sl.v r117.1), (Value.int .i64 p2)] (fun (r : ByteArray × Bool) => (Value.tuple #[(Value.string r.1), (Value.bool r.2)])) w12 fun r121 w14 =>
          jn (fun (J123 : Bool → World → Prop) => tk w14 fun w15 =>
            cnd (!r121.2)
              (
              J123 true w15
              )
              (
              L38 (Addr.mk b9 0 none) w15 fun x125 x126 x127 x128 x129 x130 x131 x132 x133 x134 x135 x136 x137 x138 x139 x140 x141 x142 x143 x144 x145 x146 =>
              ld (Value.int .i64) ((Addr.mk b9 0 none).add 11) w15 fun x147 =>
              callC Try.prog 16 #[(V38 x125 x126 x127 x128 x129 x130 x131 x132 x133 x134 x135 x136 x137 x138 x139 x140 x141 x142 x143 x144 x145 x146), (Value.string r121.1), (Value.int .i64 p2)] (fun (r : Bool) => (Value.bool r)) w15 fun r148 w16 =>
              (w16.cell? ((Addr.mk b9 0 none).add 11) = some (Value.int .i64 x147)) ∧
              J123 (!(r148 == (decide (p2 ≤ x147)))) w16
              )
          )
          fun l149 w17 =>
          cnd (l149)
            (
            K false w17
            )
            (
            J118 () w17
            )
          )
          (
          J118 () w12
          )
      )
      fun _l119 w13 =>
      L38 (Addr.mk b9 0 none) w13 fun x151 x152 x153 x154 x155 x156 x157 x158 x159 x160 x161 x162 x163 x164 x165 x166 x167 x168 x169 x170 x171 x172 =>
      callC Try.prog 16 #[(V38 x151 x152 x153 x154 x155 x156 x157 x158 x159 x160 x161 x162 x163 x164 x165 x166 x167 x168 x169 x170 x171 x172), (Value.string p1), (Value.int .i64 p2)] (fun (r : Bool) => (Value.bool r)) w13 fun r173 w18 =>
      cnd (r173 && ((!r117.2) || (decide (0 < (r117.1.len : Int)))))
        (
        K false w18
        )
        (
        jn (fun J183 => cnd (r11)
          (
          L38 (Addr.mk b9 0 none) w18 fun x185 x186 x187 x188 x189 x190 x191 x192 x193 x194 x195 x196 x197 x198 x199 x200 x201 x202 x203 x204 x205 x206 =>
          L38 (Addr.mk b10 0 none) w18 fun x207 x208 x209 x210 x211 x212 x213 x214 x215 x216 x217 x218 x219 x220 x221 x222 x223 x224 x225 x226 x227 x228 =>
          callC Try.prog 19 #[(V38 x185 x186 x187 x188 x189 x190 x191 x192 x193 x194 x195 x196 x197 x198 x199 x200 x201 x202 x203 x204 x205 x206), (V38 x207 x208 x209 x210 x211 x212 x213 x214 x215 x216 x217 x218 x219 x220 x221 x222 x223 x224 x225 x226 x227 x228)] (fun (r : Bool) => (Value.bool r)) w18 fun r229 w19 =>
          jn (fun J230 => cnd (r229)
            (
            L38 (Addr.mk b9 0 none) w19 fun x232 x233 x234 x235 x236 x237 x238 x239 x240 x241 x242 x243 x244 x245 x246 x247 x248 x249 x250 x251 x252 x253 =>
            callC Try.prog 16 #[(V38 x232 x233 x234 x235 x236 x237 x238 x239 x240 x241 x242 x243 x244 x245 x246 x247 x248 x249 x250 x251 x252 x253), (Value.string p1), (Value.int .i64 p2)] (fun (r : Bool) => (Value.bool r)) w19 fun r254 w20 =>
            J230 r254 w20
            )
            (
            J230 false w19
            ))
          fun c255 w21 =>
          jn (fun J256 => cnd (c255)
            (
            L38 (Addr.mk b10 0 none) w21 fun x258 x259 x260 x261 x262 x263 x264 x265 x266 x267 x268 x269 x270 x271 x272 x273 x274 x275 x276 x277 x278 x279 =>
            callC Try.prog 16 #[(V38 x258 x259 x260 x261 x262 x263 x264 x265 x266 x267 x268 x269 x270 x271 x272 x273 x274 x275 x276 x277 x278 x279), (Value.string p1), (Value.int .i64 p2)] (fun (r : Bool) => (Value.bool r)) w21 fun r280 w22 =>
            J256 (!r280) w22
            )
            (
            J256 false w21
            ))
          fun c281 w23 =>
          J183 (!c281) w23
          )
          (
          J183 false w18
          ))
        fun c282 w24 =>
        K c282 w24
        )
      )
    )
set_option maxRecDepth 100000 in
theorem D7 (p0 : Sl) (p1 : ByteArray) (p2 : Int) (p3_0 : ByteArray) (p3_1 : Int) (p3_2 : Int) (p3_3 : Int) (p3_4 : Bool) (p3_5 : Int) (p3_6 : Bool) (p3_7 : Bool) (p3_8 : Int) (p3_9 : Int) (p3_10 : Int) (p3_11 : Int) (p3_12 : Sl) (p3_13 : Int) (p3_14 : Int) (p3_15 : Int) (p3_16 : Int) (p3_17 : Bool) (p3_18 : Int) (p3_19 : Int) (p3_20 : Int) (p3_21 : Int) (p4_0 : ByteArray) (p4_1 : Int) (p4_2 : Int) (p4_3 : Int) (p4_4 : Bool) (p4_5 : Int) (p4_6 : Bool) (p4_7 : Bool) (p4_8 : Int) (p4_9 : Int) (p4_10 : Int) (p4_11 : Int) (p4_12 : Sl) (p4_13 : Int) (p4_14 : Int) (p4_15 : Int) (p4_16 : Int) (p4_17 : Bool) (p4_18 : Int) (p4_19 : Int) (p4_20 : Int) (p4_21 : Int) (w0 : World) (K : Bool → World → Prop) (h : F7 p0 p1 p2 p3_0 p3_1 p3_2 p3_3 p3_4 p3_5 p3_6 p3_7 p3_8 p3_9 p3_10 p3_11 p3_12 p3_13 p3_14 p3_15 p3_16 p3_17 p3_18 p3_19 p3_20 p3_21 p4_0 p4_1 p4_2 p4_3 p4_4 p4_5 p4_6 p4_7 p4_8 p4_9 p4_10 p4_11 p4_12 p4_13 p4_14 p4_15 p4_16 p4_17 p4_18 p4_19 p4_20 p4_21 w0 K) : callC Try.prog 7 #[(Sl.v p0), (Value.string p1), (Value.int .i64 p2), (V38 p3_0 p3_1 p3_2 p3_3 p3_4 p3_5 p3_6 p3_7 p3_8 p3_9 p3_10 p3_11 p3_12 p3_13 p3_14 p3_15 p3_16 p3_17 p3_18 p3_19 p3_20 p3_21), (V38 p4_0 p4_1 p4_2 p4_3 p4_4 p4_5 p4_6 p4_7 p4_8 p4_9 p4_10 p4_11 p4_12 p4_13 p4_14 p4_15 p4_16 p4_17 p4_18 p4_19 p4_20 p4_21)] (fun (r : Bool) => (Value.bool r)) w0 K := by
  unfold F7 at h
  refine calls_of_wpC Try.func7 rfl 105 rfl (by simp) ?_
  intro ρ hρ
  have e0 : ρ 0 = (Sl.v p0) := hρ 0
  have e1 : ρ 1 = (Value.string p1) := hρ 1
  have e2 : ρ 2 = (Value.int .i64 p2) := hρ 2
  have e3 : ρ 3 = (V38 p3_0 p3_1 p3_2 p3_3 p3_4 p3_5 p3_6 p3_7 p3_8 p3_9 p3_10 p3_11 p3_12 p3_13 p3_14 p3_15 p3_16 p3_17 p3_18 p3_19 p3_20 p3_21) := hρ 3
  have e4 : ρ 4 = (V38 p4_0 p4_1 p4_2 p4_3 p4_4 p4_5 p4_6 p4_7 p4_8 p4_9 p4_10 p4_11 p4_12 p4_13 p4_14 p4_15 p4_16 p4_17 p4_18 p4_19 p4_20 p4_21) := hρ 4
  clear hρ
  refine wpC_seq ?_
  refine wpC_region ?_
  obtain ⟨b9, hb9⟩ : ∃ u, u = w0.heap.size := ⟨_, rfl⟩
  obtain ⟨w1, hw9⟩ : ∃ u, u = w0.alloc (.cells (A38 p3_0 p3_1 p3_2 p3_3 p3_4 p3_5 p3_6 p3_7 p3_8 p3_9 p3_10 p3_11 p3_12 p3_13 p3_14 p3_15 p3_16 p3_17 p3_18 p3_19 p3_20 p3_21) 39) := ⟨_, rfl⟩
  replace h := h b9 w1 hb9 hw9
  refine wpR_val (v := (Value.pointer (some (Addr.mk b9 0 none)))) (w' := w1) rfl rfl rfl ((x_box (v := (V38 p3_0 p3_1 p3_2 p3_3 p3_4 p3_5 p3_6 p3_7 p3_8 p3_9 p3_10 p3_11 p3_12 p3_13 p3_14 p3_15 p3_16 p3_17 p3_18 p3_19 p3_20 p3_21)) rfl e3).trans (by rw [hb9, hw9]; rfl)) ?_
  obtain ⟨b10, hb10⟩ : ∃ u, u = w1.heap.size := ⟨_, rfl⟩
  obtain ⟨w2, hw10⟩ : ∃ u, u = w1.alloc (.cells (A38 p4_0 p4_1 p4_2 p4_3 p4_4 p4_5 p4_6 p4_7 p4_8 p4_9 p4_10 p4_11 p4_12 p4_13 p4_14 p4_15 p4_16 p4_17 p4_18 p4_19 p4_20 p4_21) 39) := ⟨_, rfl⟩
  replace h := h b10 w2 hb10 hw10
  refine wpR_val (v := (Value.pointer (some (Addr.mk b10 0 none)))) (w' := w2) rfl rfl rfl ((x_box (v := (V38 p4_0 p4_1 p4_2 p4_3 p4_4 p4_5 p4_6 p4_7 p4_8 p4_9 p4_10 p4_11 p4_12 p4_13 p4_14 p4_15 p4_16 p4_17 p4_18 p4_19 p4_20 p4_21)) rfl e4).trans (by rw [hb10, hw10]; rfl)) ?_
  refine wpR_val (v := (Value.bool false)) (w' := w2) rfl rfl rfl (x_assign (v := (Value.bool false)) rfl rfl) ?_
  refine wpR_nil ?_
  refine wpC_seq ?_
  refine wpC_cut (fun ρ => ρ 0 = (Sl.v p0) ∧ ρ 1 = (Value.string p1) ∧ ρ 2 = (Value.int .i64 p2) ∧ ρ 8 = (Value.pointer (some (Addr.mk b9 0 none))) ∧ ρ 9 = (Value.pointer (some (Addr.mk b10 0 none))) ∧ True) ⟨e0, e1, e2, rfl, rfl, trivial⟩ ?_
  rintro ρ ⟨e0, e1, e2, e8, e9, -⟩
  refine wpC_region ?_
  refine wpR_enter rfl rfl rfl (x_call (vs := []) rfl rfl mapl_nil Try.func8 NN_8 NB_8) (Calls.mono h ?_)
  rintro _ w3 ⟨r11, rfl, h⟩
  refine ⟨_, rfl, ?_⟩
  refine wpR_val (v := (Value.bool r11)) (w' := w3) rfl rfl rfl (x_assign (v := (Value.bool r11)) rfl rfl) ?_
  refine wpR_nil ?_
  refine wpC_seq ?_
  refine wpC_seq ?_
  refine wpC_cut (fun ρ => ρ 0 = (Sl.v p0) ∧ ρ 1 = (Value.string p1) ∧ ρ 2 = (Value.int .i64 p2) ∧ ρ 8 = (Value.pointer (some (Addr.mk b9 0 none))) ∧ ρ 9 = (Value.pointer (some (Addr.mk b10 0 none))) ∧ ρ 11 = (Value.bool r11) ∧ True) ⟨e0, e1, e2, e8, e9, rfl, trivial⟩ ?_
  rintro ρ ⟨e0, e1, e2, e8, e9, e11, -⟩
  refine wpC_region ?_
  obtain ⟨x12, q12, x13, q13, x14, q14, x15, q15, x16, q16, x17, q17, x18, q18, x19, q19, x20, q20, x21, q21, x22, q22, x23, q23, x24, q24, x25, q25, x26, q26, x27, q27, x28, q28, x29, q29, x30, q30, x31, q31, x32, q32, x33, q33, h⟩ := h
  refine wpR_val (v := (V38 x12 x13 x14 x15 x16 x17 x18 x19 x20 x21 x22 x23 x24 x25 x26 x27 x28 x29 x30 x31 x32 x33)) (w' := w3) rfl rfl rfl (x_loadN (S38 x12 x13 x14 x15 x16 x17 x18 x19 x20 x21 x22 x23 x24 x25 x26 x27 x28 x29 x30 x31 x32 x33) rfl e8 SH_39 (K38 ⟨q12, q13, q14, q15, q16, q17, q18, q19, q20, q21, q22, q23, q24, q25, q26, q27, q28, q29, q30, q31, q32, q33⟩)) ?_
  refine wpR_enter rfl rfl rfl (x_call (vs := [(V38 x12 x13 x14 x15 x16 x17 x18 x19 x20 x21 x22 x23 x24 x25 x26 x27 x28 x29 x30 x31 x32 x33)]) rfl rfl (mapl_cons rfl mapl_nil) Try.func14 NN_14 NB_14) (Calls.mono h ?_)
  rintro _ w4 ⟨r34, rfl, h⟩
  refine ⟨_, rfl, ?_⟩
  refine wpR_val (v := (Value.bool (!r34))) (w' := w4) rfl rfl rfl (x_not rfl rfl) ?_
  refine wpR_val (v := (Value.bool (!r34))) (w' := w4) rfl rfl rfl (x_move (v := (Value.bool (!r34))) rfl rfl) ?_
  obtain ⟨J35, h, hk⟩ := h
  refine wpR_joinJ 4 (fun x ρ => ρ 24 = Value.bool x ∧ ρ 0 = (Sl.v p0) ∧ ρ 1 = (Value.string p1) ∧ ρ 2 = (Value.int .i64 p2) ∧ ρ 8 = (Value.pointer (some (Addr.mk b9 0 none))) ∧ ρ 9 = (Value.pointer (some (Addr.mk b10 0 none))) ∧ ρ 11 = (Value.bool r11) ∧ True) (J35) ?_ ?_
  · clear hk
    rcases Bool.eq_false_or_eq_true (!r34) with hc36 | hc36
    · replace h := h.1 hc36
      refine wpR_pass (wantN rfl rfl rfl hc36) rfl rfl ?_
      refine wpR_pass (wantN rfl rfl rfl hc36) rfl rfl ?_
      refine wpR_pass (wantN rfl rfl rfl hc36) rfl rfl ?_
      refine wpR_val (v := (Value.bool true)) (w' := w4) rfl rfl rfl (x_pickT (v := (Value.bool true)) rfl rfl hc36 rfl) ?_
      refine wpR_nil ?_
      exact ⟨true, ⟨rfl, e0, e1, e2, e8, e9, e11, trivial⟩, h⟩
    · replace h := h.2 hc36
      obtain ⟨x37, q37, x38, q38, x39, q39, x40, q40, x41, q41, x42, q42, x43, q43, x44, q44, x45, q45, x46, q46, x47, q47, x48, q48, x49, q49, x50, q50, x51, q51, x52, q52, x53, q53, x54, q54, x55, q55, x56, q56, x57, q57, x58, q58, h⟩ := h
      refine wpR_val (v := (V38 x37 x38 x39 x40 x41 x42 x43 x44 x45 x46 x47 x48 x49 x50 x51 x52 x53 x54 x55 x56 x57 x58)) (w' := w4) (wantG rfl rfl rfl hc36) rfl rfl (x_loadN (S38 x37 x38 x39 x40 x41 x42 x43 x44 x45 x46 x47 x48 x49 x50 x51 x52 x53 x54 x55 x56 x57 x58) rfl e9 SH_39 (K38 ⟨q37, q38, q39, q40, q41, q42, q43, q44, q45, q46, q47, q48, q49, q50, q51, q52, q53, q54, q55, q56, q57, q58⟩)) ?_
      refine wpR_enter (wantG rfl rfl rfl hc36) rfl rfl (x_call (vs := [(V38 x37 x38 x39 x40 x41 x42 x43 x44 x45 x46 x47 x48 x49 x50 x51 x52 x53 x54 x55 x56 x57 x58)]) rfl rfl (mapl_cons rfl mapl_nil) Try.func14 NN_14 NB_14) (Calls.mono h ?_)
      rintro _ w5 ⟨r59, rfl, h⟩
      refine ⟨_, rfl, ?_⟩
      refine wpR_val (v := (Value.bool (!r59))) (w' := w5) (wantG rfl rfl rfl hc36) rfl rfl (x_not rfl rfl) ?_
      refine wpR_val (v := (Value.bool (!r59))) (w' := w5) rfl rfl rfl (x_pickF (v := (Value.bool (!r59))) rfl rfl hc36 rfl) ?_
      refine wpR_nil ?_
      exact ⟨!r59, ⟨rfl, e0, e1, e2, e8, e9, e11, trivial⟩, h⟩
  clear h
  rintro c60 ρ w6 ⟨e24, e0, e1, e2, e8, e9, e11, -⟩ h
  replace h := hk c60 w6 h
  clear hk
  refine wpR_val (v := (Value.bool c60)) (w' := w6) rfl rfl rfl (x_move (v := (Value.bool c60)) rfl e24) ?_
  obtain ⟨J61, h, hk⟩ := h
  refine wpR_joinJ 5 (fun x ρ => ρ 30 = Value.bool x ∧ ρ 0 = (Sl.v p0) ∧ ρ 1 = (Value.string p1) ∧ ρ 2 = (Value.int .i64 p2) ∧ ρ 8 = (Value.pointer (some (Addr.mk b9 0 none))) ∧ ρ 9 = (Value.pointer (some (Addr.mk b10 0 none))) ∧ ρ 11 = (Value.bool r11) ∧ True) (J61) ?_ ?_
  · clear hk
    rcases Bool.eq_false_or_eq_true (c60) with hc62 | hc62
    · replace h := h.1 hc62
      refine wpR_pass (wantN rfl rfl rfl hc62) rfl rfl ?_
      refine wpR_pass (wantN rfl rfl rfl hc62) rfl rfl ?_
      refine wpR_pass (wantN rfl rfl rfl hc62) rfl rfl ?_
      refine wpR_pass (wantN rfl rfl rfl hc62) rfl rfl ?_
      refine wpR_val (v := (Value.bool true)) (w' := w6) rfl rfl rfl (x_pickT (v := (Value.bool true)) rfl rfl hc62 rfl) ?_
      refine wpR_nil ?_
      exact ⟨true, ⟨rfl, e0, e1, e2, e8, e9, e11, trivial⟩, h⟩
    · replace h := h.2 hc62
      refine wpR_val (v := (Sl.v p0)) (w' := w6) (wantG rfl rfl rfl hc62) rfl rfl (x_move (v := (Sl.v p0)) rfl e0) ?_
      refine wpR_val (v := (Value.string p1)) (w' := w6) (wantG rfl rfl rfl hc62) rfl rfl (x_move (v := (Value.string p1)) rfl e1) ?_
      refine wpR_enter (wantG rfl rfl rfl hc62) rfl rfl (x_call (vs := [(Sl.v p0), (Value.string p1), (Sl.v Sl.nil)]) rfl rfl (mapl_cons rfl (mapl_cons rfl (mapl_cons rfl mapl_nil))) Try.func9 NN_9 NB_9) (Calls.mono h ?_)
      rintro _ w7 ⟨r63, rfl, h⟩
      refine ⟨_, rfl, ?_⟩
      refine wpR_val (v := (Value.bool (!r63))) (w' := w7) (wantG rfl rfl rfl hc62) rfl rfl (x_not rfl rfl) ?_
      refine wpR_val (v := (Value.bool (!r63))) (w' := w7) rfl rfl rfl (x_pickF (v := (Value.bool (!r63))) rfl rfl hc62 rfl) ?_
      refine wpR_nil ?_
      exact ⟨!r63, ⟨rfl, e0, e1, e2, e8, e9, e11, trivial⟩, h⟩
  clear h
  rintro c64 ρ w8 ⟨e30, e0, e1, e2, e8, e9, e11, -⟩ h
  replace h := hk c64 w8 h
  clear hk
  refine wpR_nil ?_
  refine wpC_cond (b := c64) e30 (fun hc65 => ?_) (fun hc65 => ?_)
  · replace h := h.1 hc65
    refine wpC_seq ?_
    refine wpC_region ?_
    refine wpR_val (v := (Value.bool r11)) (w' := w8) rfl rfl rfl (x_move (v := (Value.bool r11)) rfl e11) ?_
    refine wpR_val (v := (Value.bool r11)) (w' := w8) rfl rfl rfl (x_assign (v := (Value.bool r11)) rfl rfl) ?_
    refine wpR_nil ?_
    refine wpC_ret ?_
    exact ⟨.inl rfl, fun a ha => ⟨_, results_rep1 rfl ha rfl, r11, rfl, h⟩⟩
  · replace h := h.2 hc65
    refine wpC_skip ?_
    refine wpC_seq ?_
    refine wpC_seq ?_
    refine wpC_region ?_
    obtain ⟨x66, q66, x67, q67, x68, q68, x69, q69, x70, q70, x71, q71, x72, q72, x73, q73, x74, q74, x75, q75, x76, q76, x77, q77, x78, q78, x79, q79, x80, q80, x81, q81, x82, q82, x83, q83, x84, q84, x85, q85, x86, q86, x87, q87, h⟩ := h
    refine wpR_val (v := (V38 x66 x67 x68 x69 x70 x71 x72 x73 x74 x75 x76 x77 x78 x79 x80 x81 x82 x83 x84 x85 x86 x87)) (w' := w8) rfl rfl rfl (x_loadN (S38 x66 x67 x68 x69 x70 x71 x72 x73 x74 x75 x76 x77 x78 x79 x80 x81 x82 x83 x84 x85 x86 x87) rfl e8 SH_39 (K38 ⟨q66, q67, q68, q69, q70, q71, q72, q73, q74, q75, q76, q77, q78, q79, q80, q81, q82, q83, q84, q85, q86, q87⟩)) ?_
    refine wpR_enter rfl rfl rfl (x_call (vs := [(V38 x66 x67 x68 x69 x70 x71 x72 x73 x74 x75 x76 x77 x78 x79 x80 x81 x82 x83 x84 x85 x86 x87)]) rfl rfl (mapl_cons rfl mapl_nil) Try.func18 NN_18 NB_18) (Calls.mono h ?_)
    rintro _ w9 ⟨r88, rfl, h⟩
    refine ⟨_, rfl, ?_⟩
    refine wpR_val (v := (Value.bool (!decide (r88 = 0)))) (w' := w9) rfl rfl rfl (x_neq rfl rfl rfl) ?_
    refine wpR_val (v := (Value.bool (!decide (r88 = 0)))) (w' := w9) rfl rfl rfl (x_move (v := (Value.bool (!decide (r88 = 0)))) rfl rfl) ?_
    obtain ⟨J89, h, hk⟩ := h
    refine wpR_joinJ 4 (fun x ρ => ρ 39 = Value.bool x ∧ ρ 0 = (Sl.v p0) ∧ ρ 1 = (Value.string p1) ∧ ρ 2 = (Value.int .i64 p2) ∧ ρ 8 = (Value.pointer (some (Addr.mk b9 0 none))) ∧ ρ 9 = (Value.pointer (some (Addr.mk b10 0 none))) ∧ ρ 11 = (Value.bool r11) ∧ True) (J89) ?_ ?_
    · clear hk
      rcases Bool.eq_false_or_eq_true (!decide (r88 = 0)) with hc90 | hc90
      · replace h := h.1 hc90
        refine wpR_pass (wantN rfl rfl rfl hc90) rfl rfl ?_
        refine wpR_pass (wantN rfl rfl rfl hc90) rfl rfl ?_
        refine wpR_pass (wantN rfl rfl rfl hc90) rfl rfl ?_
        refine wpR_val (v := (Value.bool true)) (w' := w9) rfl rfl rfl (x_pickT (v := (Value.bool true)) rfl rfl hc90 rfl) ?_
        refine wpR_nil ?_
        exact ⟨true, ⟨rfl, e0, e1, e2, e8, e9, e11, trivial⟩, h⟩
      · replace h := h.2 hc90
        obtain ⟨x91, q91, x92, q92, x93, q93, x94, q94, x95, q95, x96, q96, x97, q97, x98, q98, x99, q99, x100, q100, x101, q101, x102, q102, x103, q103, x104, q104, x105, q105, x106, q106, x107, q107, x108, q108, x109, q109, x110, q110, x111, q111, x112, q112, h⟩ := h
        refine wpR_val (v := (V38 x91 x92 x93 x94 x95 x96 x97 x98 x99 x100 x101 x102 x103 x104 x105 x106 x107 x108 x109 x110 x111 x112)) (w' := w9) (wantG rfl rfl rfl hc90) rfl rfl (x_loadN (S38 x91 x92 x93 x94 x95 x96 x97 x98 x99 x100 x101 x102 x103 x104 x105 x106 x107 x108 x109 x110 x111 x112) rfl e9 SH_39 (K38 ⟨q91, q92, q93, q94, q95, q96, q97, q98, q99, q100, q101, q102, q103, q104, q105, q106, q107, q108, q109, q110, q111, q112⟩)) ?_
        refine wpR_enter (wantG rfl rfl rfl hc90) rfl rfl (x_call (vs := [(V38 x91 x92 x93 x94 x95 x96 x97 x98 x99 x100 x101 x102 x103 x104 x105 x106 x107 x108 x109 x110 x111 x112)]) rfl rfl (mapl_cons rfl mapl_nil) Try.func18 NN_18 NB_18) (Calls.mono h ?_)
        rintro _ w10 ⟨r113, rfl, h⟩
        refine ⟨_, rfl, ?_⟩
        refine wpR_val (v := (Value.bool (!decide (r113 = 0)))) (w' := w10) (wantG rfl rfl rfl hc90) rfl rfl (x_neq rfl rfl rfl) ?_
        refine wpR_val (v := (Value.bool (!decide (r113 = 0)))) (w' := w10) rfl rfl rfl (x_pickF (v := (Value.bool (!decide (r113 = 0)))) rfl rfl hc90 rfl) ?_
        refine wpR_nil ?_
        exact ⟨!decide (r113 = 0), ⟨rfl, e0, e1, e2, e8, e9, e11, trivial⟩, h⟩
    clear h
    rintro c114 ρ w11 ⟨e39, e0, e1, e2, e8, e9, e11, -⟩ h
    replace h := hk c114 w11 h
    clear hk
    refine wpR_nil ?_
    refine wpC_cond (b := c114) e39 (fun hc115 => ?_) (fun hc115 => ?_)
    · replace h := h.1 hc115
      refine wpC_seq ?_
      refine wpC_region ?_
      refine wpR_val (v := (Value.bool r11)) (w' := w11) rfl rfl rfl (x_move (v := (Value.bool r11)) rfl e11) ?_
      refine wpR_val (v := (Value.bool r11)) (w' := w11) rfl rfl rfl (x_assign (v := (Value.bool r11)) rfl rfl) ?_
      refine wpR_nil ?_
      refine wpC_ret ?_
      exact ⟨.inl rfl, fun a ha => ⟨_, results_rep1 rfl ha rfl, r11, rfl, h⟩⟩
    · replace h := h.2 hc115
      refine wpC_skip ?_
      refine wpC_seq ?_
      refine wpC_region ?_
      refine wpR_val (v := (Sl.v p0)) (w' := w11) rfl rfl rfl (x_move (v := (Sl.v p0)) rfl e0) ?_
      refine wpR_val (v := (Value.string p1)) (w' := w11) rfl rfl rfl (x_move (v := (Value.string p1)) rfl e1) ?_
      refine wpR_val (v := (Value.pointer (some ((Addr.mk b9 0 none).add 12)))) (w' := w11) rfl rfl rfl (x_fieldAddr rfl e8 FA_39_12) ?_
      obtain ⟨x116, q116, h⟩ := h
      refine wpR_val (v := (Sl.v x116)) (w' := w11) rfl rfl rfl (x_load1 rfl rfl SH_23 q116) ?_
      refine wpR_val (v := (Value.int .i64 p2)) (w' := w11) rfl rfl rfl (x_move (v := (Value.int .i64 p2)) rfl e2) ?_
      refine wpR_enter rfl rfl rfl (x_call (vs := [(Sl.v p0), (Value.string p1), (Sl.v x116), (Value.int .i64 p2)]) rfl rfl (mapl_cons rfl (mapl_cons rfl (mapl_cons rfl (mapl_cons rfl mapl_nil)))) Try.func10 NN_10 NB_10) (Calls.mono h ?_)
      rintro _ w12 ⟨r117, rfl, h⟩
      refine ⟨_, rfl, ?_⟩
      refine wpR_val (v := (Value.tuple #[(Sl.v r117.1), (Value.bool r117.2)])) (w' := w12) rfl rfl rfl (x_move (v := (Value.tuple #[(Sl.v r117.1), (Value.bool r117.2)])) rfl rfl) ?_
      refine wpR_val (v := (Sl.v r117.1)) (w' := w12) rfl rfl rfl (x_extract rfl rfl rfl) ?_
      refine wpR_val (v := (Value.bool r117.2)) (w' := w12) rfl rfl rfl (x_extract rfl rfl rfl) ?_
      refine wpR_val (v := (Sl.v r117.1)) (w' := w12) rfl rfl rfl (x_assign (v := (Sl.v r117.1)) rfl rfl) ?_
      refine wpR_val (v := (Value.bool r117.2)) (w' := w12) rfl rfl rfl (x_assign (v := (Value.bool r117.2)) rfl rfl) ?_
      refine wpR_nil ?_
      obtain ⟨J118, h, hk⟩ := h
      refine wpC_seqJ (fun (x : Unit) ρ => ρ 1 = (Value.string p1) ∧ ρ 2 = (Value.int .i64 p2) ∧ ρ 8 = (Value.pointer (some (Addr.mk b9 0 none))) ∧ ρ 9 = (Value.pointer (some (Addr.mk b10 0 none))) ∧ ρ 11 = (Value.bool r11) ∧ ρ 12 = (Sl.v r117.1) ∧ ρ 13 = (Value.bool r117.2) ∧ True) J118 ?_ ?_
      · clear hk
        refine wpC_seq ?_
        refine wpC_cut (fun ρ => ρ 0 = (Sl.v p0) ∧ ρ 1 = (Value.string p1) ∧ ρ 2 = (Value.int .i64 p2) ∧ ρ 8 = (Value.pointer (some (Addr.mk b9 0 none))) ∧ ρ 9 = (Value.pointer (some (Addr.mk b10 0 none))) ∧ ρ 11 = (Value.bool r11) ∧ ρ 12 = (Sl.v r117.1) ∧ ρ 13 = (Value.bool r117.2) ∧ True) ⟨e0, e1, e2, e8, e9, e11, rfl, rfl, trivial⟩ ?_
        rintro ρ ⟨e0, e1, e2, e8, e9, e11, e12, e13, -⟩
        refine wpC_region ?_
        refine wpR_val (v := (Value.bool r117.2)) (w' := w12) rfl rfl rfl (x_move (v := (Value.bool r117.2)) rfl e13) ?_
        refine wpR_nil ?_
        refine wpC_cond (b := r117.2) rfl (fun hc120 => ?_) (fun hc120 => ?_)
        · replace h := h.1 hc120
          refine wpC_seq ?_
          refine wpC_cut (fun ρ => ρ 0 = (Sl.v p0) ∧ ρ 1 = (Value.string p1) ∧ ρ 2 = (Value.int .i64 p2) ∧ ρ 8 = (Value.pointer (some (Addr.mk b9 0 none))) ∧ ρ 9 = (Value.pointer (some (Addr.mk b10 0 none))) ∧ ρ 11 = (Value.bool r11) ∧ ρ 12 = (Sl.v r117.1) ∧ ρ 13 = (Value.bool r117.2) ∧ True) ⟨e0, e1, e2, e8, e9, e11, e12, e13, trivial⟩ ?_
          rintro ρ ⟨e0, e1, e2, e8, e9, e11, e12, e13, -⟩
          refine wpC_region ?_
          refine wpR_val (v := (Sl.v p0)) (w' := w12) rfl rfl rfl (x_move (v := (Sl.v p0)) rfl e0) ?_
          refine wpR_val (v := (Value.string p1)) (w' := w12) rfl rfl rfl (x_move (v := (Value.string p1)) rfl e1) ?_
          refine wpR_val (v := (Sl.v r117.1)) (w' := w12) rfl rfl rfl (x_move (v := (Sl.v r117.1)) rfl e12) ?_
          refine wpR_val (v := (Value.int .i64 p2)) (w' := w12) rfl rfl rfl (x_move (v := (Value.int .i64 p2)) rfl e2) ?_
          refine wpR_enter rfl rfl rfl (x_call (vs := [(Sl.v p0), (Value.string p1), (Sl.v r117.1), (Value.int .i64 p2)]) rfl rfl (mapl_cons rfl (mapl_cons rfl (mapl_cons rfl (mapl_cons rfl mapl_nil)))) Try.func11 NN_11 NB_11) (Calls.mono h ?_)
          rintro _ w14 ⟨r121, rfl, h⟩
          refine ⟨_, rfl, ?_⟩
          refine wpR_val (v := (Value.tuple #[(Value.string r121.1), (Value.bool r121.2)])) (w' := w14) rfl rfl rfl (x_move (v := (Value.tuple #[(Value.string r121.1), (Value.bool r121.2)])) rfl rfl) ?_
          refine wpR_val (v := (Value.string r121.1)) (w' := w14) rfl rfl rfl (x_extract rfl rfl rfl) ?_
          refine wpR_val (v := (Value.bool r121.2)) (w' := w14) rfl rfl rfl (x_extract rfl rfl rfl) ?_
          refine wpR_val (v := (Value.string r121.1)) (w' := w14) rfl rfl rfl (x_assign (v := (Value.string r121.1)) rfl rfl) ?_
          refine wpR_val (v := (Value.bool r121.2)) (w' := w14) rfl rfl rfl (x_assign (v := (Value.bool r121.2)) rfl rfl) ?_
          refine wpR_nil ?_
          refine wpC_seq ?_
          refine wpC_cut (fun ρ => ρ 1 = (Value.string p1) ∧ ρ 2 = (Value.int .i64 p2) ∧ ρ 8 = (Value.pointer (some (Addr.mk b9 0 none))) ∧ ρ 9 = (Value.pointer (some (Addr.mk b10 0 none))) ∧ ρ 11 = (Value.bool r11) ∧ ρ 12 = (Sl.v r117.1) ∧ ρ 13 = (Value.bool r117.2) ∧ ρ 14 = (Value.string r121.1) ∧ ρ 15 = (Value.bool r121.2) ∧ True) ⟨e1, e2, e8, e9, e11, e12, e13, rfl, rfl, trivial⟩ ?_
          rintro ρ ⟨e1, e2, e8, e9, e11, e12, e13, e14, e15, -⟩
          obtain ⟨J123, h, hk⟩ := h
          refine wpC_drawJ (by kernel_rfl) (fun (x : Bool) ρ => ρ 71 = (Value.bool x) ∧ ρ 1 = (Value.string p1) ∧ ρ 2 = (Value.int .i64 p2) ∧ ρ 8 = (Value.pointer (some (Addr.mk b9 0 none))) ∧ ρ 9 = (Value.pointer (some (Addr.mk b10 0 none))) ∧ ρ 11 = (Value.bool r11) ∧ ρ 12 = (Sl.v r117.1) ∧ ρ 13 = (Value.bool r117.2) ∧ True) J123 ?_ ?_
          · clear hk
            unfold tk at h
            generalize w14.drew = w15 at h ⊢
            refine wpD_take (v := (Value.bool r121.2)) 0 (fun _ => True) rfl (by kernel_rfl) (by kernel_rfl) (by kernel_rfl) rfl rfl rfl trivial (fun w _ => (x_move (v := (Value.bool r121.2)) rfl e15)) ?_
            refine wpD_take (v := (Value.bool (!r121.2))) 1 (fun _ => True) rfl (by kernel_rfl) (by kernel_rfl) (by kernel_rfl) rfl rfl rfl trivial (fun w _ => (x_not rfl rfl)) ?_
            refine wpD_take (v := (Value.bool (!r121.2))) 2 (fun _ => True) rfl (by kernel_rfl) (by kernel_rfl) (by kernel_rfl) rfl rfl rfl trivial (fun w _ => (x_move (v := (Value.bool (!r121.2))) rfl rfl)) ?_
            rcases Bool.eq_false_or_eq_true (!r121.2) with hc124 | hc124
            · replace h := h.1 hc124
              refine wpD_pass 3 rfl (by kernel_rfl) (by kernel_rfl) (by kernel_rfl) (wantN rfl rfl rfl hc124) rfl rfl ?_
              refine wpD_pass 4 rfl (by kernel_rfl) (by kernel_rfl) (by kernel_rfl) (wantN rfl rfl rfl hc124) rfl rfl ?_
              refine wpD_pass 5 rfl (by kernel_rfl) (by kernel_rfl) (by kernel_rfl) (wantN rfl rfl rfl hc124) rfl rfl ?_
              refine wpD_pass 6 rfl (by kernel_rfl) (by kernel_rfl) (by kernel_rfl) (wantN rfl rfl rfl hc124) rfl rfl ?_
              refine wpD_pass 7 rfl (by kernel_rfl) (by kernel_rfl) (by kernel_rfl) (wantN rfl rfl rfl hc124) rfl rfl ?_
              refine wpD_pass 8 rfl (by kernel_rfl) (by kernel_rfl) (by kernel_rfl) (wantN rfl rfl rfl hc124) rfl rfl ?_
              refine wpD_pass 9 rfl (by kernel_rfl) (by kernel_rfl) (by kernel_rfl) (wantN rfl rfl rfl hc124) rfl rfl ?_
              refine wpD_pass 10 rfl (by kernel_rfl) (by kernel_rfl) (by kernel_rfl) (wantN rfl rfl rfl hc124) rfl rfl ?_
              refine wpD_pass 11 rfl (by kernel_rfl) (by kernel_rfl) (by kernel_rfl) (wantN rfl rfl rfl hc124) rfl rfl ?_
              refine wpD_take (v := (Value.bool true)) 12 (fun _ => True) rfl (by kernel_rfl) (by kernel_rfl) (by kernel_rfl) rfl rfl rfl trivial (fun w _ => (x_pickT (v := (Value.bool true)) rfl rfl hc124 rfl)) ?_
              exact wpD_done (by kernel_rfl) ⟨true, ⟨rfl, e1, e2, e8, e9, e11, e12, e13, trivial⟩, h⟩
            · replace h := h.2 hc124
              obtain ⟨x125, q125, x126, q126, x127, q127, x128, q128, x129, q129, x130, q130, x131, q131, x132, q132, x133, q133, x134, q134, x135, q135, x136, q136, x137, q137, x138, q138, x139, q139, x140, q140, x141, q141, x142, q142, x143, q143, x144, q144, x145, q145, x146, q146, h⟩ := h
              refine wpD_take (v := (V38 x125 x126 x127 x128 x129 x130 x131 x132 x133 x134 x135 x136 x137 x138 x139 x140 x141 x142 x143 x144 x145 x146)) 3 (fun w => C38 (Addr.mk b9 0 none) x125 x126 x127 x128 x129 x130 x131 x132 x133 x134 x135 x136 x137 x138 x139 x140 x141 x142 x143 x144 x145 x146 w) rfl (by kernel_rfl) (by kernel_rfl) (by kernel_rfl) (wantG rfl rfl rfl hc124) rfl rfl ⟨q125, q126, q127, q128, q129, q130, q131, q132, q133, q134, q135, q136, q137, q138, q139, q140, q141, q142, q143, q144, q145, q146⟩ (fun w q => (x_loadN (S38 x125 x126 x127 x128 x129 x130 x131 x132 x133 x134 x135 x136 x137 x138 x139 x140 x141 x142 x143 x144 x145 x146) rfl e8 SH_39 (K38 q))) ?_
              refine wpD_take (v := (Value.string r121.1)) 4 (fun _ => True) rfl (by kernel_rfl) (by kernel_rfl) (by kernel_rfl) (wantG rfl rfl rfl hc124) rfl rfl trivial (fun w _ => (x_move (v := (Value.string r121.1)) rfl e14)) ?_
              refine wpD_take (v := (Value.int .i64 p2)) 5 (fun _ => True) rfl (by kernel_rfl) (by kernel_rfl) (by kernel_rfl) (wantG rfl rfl rfl hc124) rfl rfl trivial (fun w _ => (x_move (v := (Value.int .i64 p2)) rfl e2)) ?_
              refine wpD_take (v := (Value.int .i64 p2)) 7 (fun _ => True) rfl (by kernel_rfl) (by kernel_rfl) (by kernel_rfl) (wantG rfl rfl rfl hc124) rfl rfl trivial (fun w _ => (x_move (v := (Value.int .i64 p2)) rfl e2)) ?_
              refine wpD_take (v := (Value.pointer (some ((Addr.mk b9 0 none).add 11)))) 8 (fun _ => True) rfl (by kernel_rfl) (by kernel_rfl) (by kernel_rfl) (wantG rfl rfl rfl hc124) rfl rfl trivial (fun w _ => (x_fieldAddr rfl e8 FA_39_11)) ?_
              obtain ⟨x147, q147, h⟩ := h
              refine wpD_take (v := (Value.int .i64 x147)) 9 (fun w => w.cell? ((Addr.mk b9 0 none).add 11) = some (Value.int .i64 x147)) rfl (by kernel_rfl) (by kernel_rfl) (by kernel_rfl) (wantG rfl rfl rfl hc124) rfl rfl q147 (fun w q147 => (x_load1 rfl rfl SH_3 q147)) ?_
              refine wpD_take (v := (Value.bool (decide (p2 ≤ x147)))) 10 (fun _ => True) rfl (by kernel_rfl) (by kernel_rfl) (by kernel_rfl) (wantG rfl rfl rfl hc124) rfl rfl trivial (fun w _ => (x_leq rfl rfl rfl)) ?_
              refine wpD_all (rs := [6]) (by kernel_rfl) (by simp) (allD_cons ?_ allD_nil)
              refine stepD_enterL (L' := [(10, fun _ => True), (9, fun w => w.cell? ((Addr.mk b9 0 none).add 11) = some (Value.int .i64 x147)), (8, fun _ => True), (7, fun _ => True), (1, fun _ => True), (0, fun _ => True)]) rfl (wantG rfl rfl rfl hc124) rfl rfl (x_call (vs := [(V38 x125 x126 x127 x128 x129 x130 x131 x132 x133 x134 x135 x136 x137 x138 x139 x140 x141 x142 x143 x144 x145 x146), (Value.string r121.1), (Value.int .i64 p2)]) rfl rfl (mapl_cons rfl (mapl_cons rfl (mapl_cons rfl mapl_nil))) Try.func16 NN_16 NB_16) (by kernel_rfl) (Calls.mono h ?_)
              rintro _ w16 ⟨r148, rfl, h⟩
              obtain ⟨o9, h⟩ := h
              refine ⟨_, rfl, (held_cons trivial (held_cons o9 (held_cons trivial (held_cons trivial (held_cons trivial (held_cons trivial held_nil)))))), ?_⟩
              refine wpD_take (v := (Value.bool (!(r148 == (decide (p2 ≤ x147)))))) 11 (fun _ => True) rfl (by kernel_rfl) (by kernel_rfl) (by kernel_rfl) (wantG rfl rfl rfl hc124) rfl rfl trivial (fun w _ => (x_neqB rfl rfl rfl isBoolT_4)) ?_
              refine wpD_take (v := (Value.bool (!(r148 == (decide (p2 ≤ x147)))))) 12 (fun _ => True) rfl (by kernel_rfl) (by kernel_rfl) (by kernel_rfl) rfl rfl rfl trivial (fun w _ => (x_pickF (v := (Value.bool (!(r148 == (decide (p2 ≤ x147)))))) rfl rfl hc124 rfl)) ?_
              exact wpD_done (by kernel_rfl) ⟨!(r148 == (decide (p2 ≤ x147))), ⟨rfl, e1, e2, e8, e9, e11, e12, e13, trivial⟩, h⟩
          clear h
          rintro l149 ρ w17 ⟨e71, e1, e2, e8, e9, e11, e12, e13, -⟩ h
          replace h := hk l149 w17 h
          clear hk
          refine wpC_cond (b := l149) e71 (fun hc150 => ?_) (fun hc150 => ?_)
          · replace h := h.1 hc150
            refine wpC_seq ?_
            refine wpC_region ?_
            refine wpR_val (v := (Value.bool false)) (w' := w17) rfl rfl rfl (x_assign (v := (Value.bool false)) rfl rfl) ?_
            refine wpR_nil ?_
            refine wpC_ret ?_
            exact ⟨.inl rfl, fun a ha => ⟨_, results_rep1 rfl ha rfl, false, rfl, h⟩⟩
          · replace h := h.2 hc150
            refine wpC_skip ?_
            exact ⟨(), ⟨e1, e2, e8, e9, e11, e12, e13, trivial⟩, h⟩
        · replace h := h.2 hc120
          refine wpC_skip ?_
          exact ⟨(), ⟨e1, e2, e8, e9, e11, e12, e13, trivial⟩, h⟩
      clear h
      rintro l119 ρ w13 ⟨e1, e2, e8, e9, e11, e12, e13, -⟩ h
      replace h := hk l119 w13 h
      clear hk
      refine wpC_seq ?_
      refine wpC_seq ?_
      refine wpC_region ?_
      obtain ⟨x151, q151, x152, q152, x153, q153, x154, q154, x155, q155, x156, q156, x157, q157, x158, q158, x159, q159, x160, q160, x161, q161, x162, q162, x163, q163, x164, q164, x165, q165, x166, q166, x167, q167, x168, q168, x169, q169, x170, q170, x171, q171, x172, q172, h⟩ := h
      refine wpR_val (v := (V38 x151 x152 x153 x154 x155 x156 x157 x158 x159 x160 x161 x162 x163 x164 x165 x166 x167 x168 x169 x170 x171 x172)) (w' := w13) rfl rfl rfl (x_loadN (S38 x151 x152 x153 x154 x155 x156 x157 x158 x159 x160 x161 x162 x163 x164 x165 x166 x167 x168 x169 x170 x171 x172) rfl e8 SH_39 (K38 ⟨q151, q152, q153, q154, q155, q156, q157, q158, q159, q160, q161, q162, q163, q164, q165, q166, q167, q168, q169, q170, q171, q172⟩)) ?_
      refine wpR_val (v := (Value.string p1)) (w' := w13) rfl rfl rfl (x_move (v := (Value.string p1)) rfl e1) ?_
      refine wpR_val (v := (Value.int .i64 p2)) (w' := w13) rfl rfl rfl (x_move (v := (Value.int .i64 p2)) rfl e2) ?_
      refine wpR_enter rfl rfl rfl (x_call (vs := [(V38 x151 x152 x153 x154 x155 x156 x157 x158 x159 x160 x161 x162 x163 x164 x165 x166 x167 x168 x169 x170 x171 x172), (Value.string p1), (Value.int .i64 p2)]) rfl rfl (mapl_cons rfl (mapl_cons rfl (mapl_cons rfl mapl_nil))) Try.func16 NN_16 NB_16) (Calls.mono h ?_)
      rintro _ w18 ⟨r173, rfl, h⟩
      refine ⟨_, rfl, ?_⟩
      refine wpR_val (v := (Value.bool r173)) (w' := w18) rfl rfl rfl (x_move (v := (Value.bool r173)) rfl rfl) ?_
      refine wpR_joinJ 8 (fun (_ : Unit) ρ => ρ 84 = Value.bool (r173 && ((!r117.2) || (decide (0 < (r117.1.len : Int))))) ∧ ρ 1 = (Value.string p1) ∧ ρ 2 = (Value.int .i64 p2) ∧ ρ 8 = (Value.pointer (some (Addr.mk b9 0 none))) ∧ ρ 9 = (Value.pointer (some (Addr.mk b10 0 none))) ∧ ρ 11 = (Value.bool r11) ∧ True) (fun _ w => w18 = w) ?_ ?_
      · clear h
        rcases Bool.eq_false_or_eq_true (r173) with hc175 | hc175
        · skip
          refine wpR_val (v := (Value.bool r117.2)) (w' := w18) (wantG rfl rfl rfl hc175) rfl rfl (x_move (v := (Value.bool r117.2)) rfl e13) ?_
          refine wpR_val (v := (Value.bool (!r117.2))) (w' := w18) (wantG rfl rfl rfl hc175) rfl rfl (x_not rfl rfl) ?_
          refine wpR_val (v := (Value.bool (!r117.2))) (w' := w18) (wantG rfl rfl rfl hc175) rfl rfl (x_move (v := (Value.bool (!r117.2))) rfl rfl) ?_
          refine wpR_joinJ 4 (fun (_ : Unit) ρ => ρ 83 = Value.bool ((!r117.2) || (decide (0 < (r117.1.len : Int)))) ∧ ρ 1 = (Value.string p1) ∧ ρ 2 = (Value.int .i64 p2) ∧ ρ 8 = (Value.pointer (some (Addr.mk b9 0 none))) ∧ ρ 9 = (Value.pointer (some (Addr.mk b10 0 none))) ∧ ρ 11 = (Value.bool r11) ∧ ρ 76 = (Value.bool r173) ∧ True) (fun _ w => w18 = w) ?_ ?_
          · clear h
            rcases Bool.eq_false_or_eq_true (!r117.2) with hc181 | hc181
            · skip
              refine wpR_pass (wantN rfl rfl rfl hc181) rfl rfl ?_
              refine wpR_pass (wantN rfl rfl rfl hc181) rfl rfl ?_
              refine wpR_pass (wantN rfl rfl rfl hc181) rfl rfl ?_
              refine wpR_val (v := (Value.bool true)) (w' := w18) (wantG rfl rfl rfl hc175) rfl rfl (x_pickT (v := (Value.bool true)) rfl rfl hc181 rfl) ?_
              refine wpR_nil ?_
              exact ⟨(), ⟨(by rw [hc181]; rfl), e1, e2, e8, e9, e11, rfl, trivial⟩, rfl⟩
            · skip
              refine wpR_val (v := (Sl.v r117.1)) (w' := w18) (wantG rfl rfl rfl hc181) rfl rfl (x_move (v := (Sl.v r117.1)) rfl e12) ?_
              refine wpR_val (v := (Value.int .i64 (r117.1.len : Int))) (w' := w18) (wantG rfl rfl rfl hc181) rfl rfl (x_lenS (s := r117.1) rfl rfl isSliceT_24) ?_
              refine wpR_val (v := (Value.bool (decide (0 < (r117.1.len : Int))))) (w' := w18) (wantG rfl rfl rfl hc181) rfl rfl (x_gtr rfl rfl rfl) ?_
              refine wpR_val (v := (Value.bool (decide (0 < (r117.1.len : Int))))) (w' := w18) (wantG rfl rfl rfl hc175) rfl rfl (x_pickF (v := (Value.bool (decide (0 < (r117.1.len : Int))))) rfl rfl hc181 rfl) ?_
              refine wpR_nil ?_
              exact ⟨(), ⟨(by rw [hc181]; rfl), e1, e2, e8, e9, e11, rfl, trivial⟩, rfl⟩
          rintro _ ρ wj ⟨e83, e1, e2, e8, e9, e11, e76, -⟩ rfl
          refine wpR_val (v := (Value.bool ((!r117.2) || (decide (0 < (r117.1.len : Int)))))) (w' := w18) rfl rfl rfl (x_pickT (v := (Value.bool ((!r117.2) || (decide (0 < (r117.1.len : Int)))))) rfl e76 hc175 e83) ?_
          refine wpR_nil ?_
          exact ⟨(), ⟨(by rw [hc175]; rfl), e1, e2, e8, e9, e11, trivial⟩, rfl⟩
        · skip
          refine wpR_pass (wantN rfl rfl rfl hc175) rfl rfl ?_
          refine wpR_pass (wantN rfl rfl rfl hc175) rfl rfl ?_
          refine wpR_pass (wantN rfl rfl rfl hc175) rfl rfl ?_
          refine wpR_pass (wantU rfl rfl rfl) rfl rfl ?_
          refine wpR_pass (wantU rfl rfl rfl) rfl rfl ?_
          refine wpR_pass (wantU rfl rfl rfl) rfl rfl ?_
          refine wpR_pass (wantN rfl rfl rfl hc175) rfl rfl ?_
          refine wpR_val (v := (Value.bool false)) (w' := w18) rfl rfl rfl (x_pickF (v := (Value.bool false)) rfl rfl hc175 rfl) ?_
          refine wpR_nil ?_
          exact ⟨(), ⟨(by rw [hc175]; rfl), e1, e2, e8, e9, e11, trivial⟩, rfl⟩
      rintro _ ρ wj ⟨e84, e1, e2, e8, e9, e11, -⟩ rfl
      refine wpR_nil ?_
      refine wpC_cond (b := r173 && ((!r117.2) || (decide (0 < (r117.1.len : Int))))) e84 (fun hc182 => ?_) (fun hc182 => ?_)
      · replace h := h.1 hc182
        refine wpC_seq ?_
        refine wpC_region ?_
        refine wpR_val (v := (Value.bool false)) (w' := w18) rfl rfl rfl (x_assign (v := (Value.bool false)) rfl rfl) ?_
        refine wpR_nil ?_
        refine wpC_ret ?_
        exact ⟨.inl rfl, fun a ha => ⟨_, results_rep1 rfl ha rfl, false, rfl, h⟩⟩
      · replace h := h.2 hc182
        refine wpC_skip ?_
        refine wpC_seq ?_
        refine wpC_region ?_
        refine wpR_val (v := (Value.bool r11)) (w' := w18) rfl rfl rfl (x_move (v := (Value.bool r11)) rfl e11) ?_
        refine wpR_val (v := (Value.bool r11)) (w' := w18) rfl rfl rfl (x_move (v := (Value.bool r11)) rfl rfl) ?_
        obtain ⟨J183, h, hk⟩ := h
        refine wpR_joinJ 18 (fun x ρ => ρ 104 = Value.bool x ∧ True) (J183) ?_ ?_
        · clear hk
          rcases Bool.eq_false_or_eq_true (r11) with hc184 | hc184
          · replace h := h.1 hc184
            obtain ⟨x185, q185, x186, q186, x187, q187, x188, q188, x189, q189, x190, q190, x191, q191, x192, q192, x193, q193, x194, q194, x195, q195, x196, q196, x197, q197, x198, q198, x199, q199, x200, q200, x201, q201, x202, q202, x203, q203, x204, q204, x205, q205, x206, q206, h⟩ := h
            refine wpR_val (v := (V38 x185 x186 x187 x188 x189 x190 x191 x192 x193 x194 x195 x196 x197 x198 x199 x200 x201 x202 x203 x204 x205 x206)) (w' := w18) (wantG rfl rfl rfl hc184) rfl rfl (x_loadN (S38 x185 x186 x187 x188 x189 x190 x191 x192 x193 x194 x195 x196 x197 x198 x199 x200 x201 x202 x203 x204 x205 x206) rfl e8 SH_39 (K38 ⟨q185, q186, q187, q188, q189, q190, q191, q192, q193, q194, q195, q196, q197, q198, q199, q200, q201, q202, q203, q204, q205, q206⟩)) ?_
            obtain ⟨x207, q207, x208, q208, x209, q209, x210, q210, x211, q211, x212, q212, x213, q213, x214, q214, x215, q215, x216, q216, x217, q217, x218, q218, x219, q219, x220, q220, x221, q221, x222, q222, x223, q223, x224, q224, x225, q225, x226, q226, x227, q227, x228, q228, h⟩ := h
            refine wpR_val (v := (V38 x207 x208 x209 x210 x211 x212 x213 x214 x215 x216 x217 x218 x219 x220 x221 x222 x223 x224 x225 x226 x227 x228)) (w' := w18) (wantG rfl rfl rfl hc184) rfl rfl (x_loadN (S38 x207 x208 x209 x210 x211 x212 x213 x214 x215 x216 x217 x218 x219 x220 x221 x222 x223 x224 x225 x226 x227 x228) rfl e9 SH_39 (K38 ⟨q207, q208, q209, q210, q211, q212, q213, q214, q215, q216, q217, q218, q219, q220, q221, q222, q223, q224, q225, q226, q227, q228⟩)) ?_
            refine wpR_enter (wantG rfl rfl rfl hc184) rfl rfl (x_call (vs := [(V38 x185 x186 x187 x188 x189 x190 x191 x192 x193 x194 x195 x196 x197 x198 x199 x200 x201 x202 x203 x204 x205 x206), (V38 x207 x208 x209 x210 x211 x212 x213 x214 x215 x216 x217 x218 x219 x220 x221 x222 x223 x224 x225 x226 x227 x228)]) rfl rfl (mapl_cons rfl (mapl_cons rfl mapl_nil)) Try.func19 NN_19 NB_19) (Calls.mono h ?_)
            rintro _ w19 ⟨r229, rfl, h⟩
            refine ⟨_, rfl, ?_⟩
            refine wpR_val (v := (Value.bool r229)) (w' := w19) (wantG rfl rfl rfl hc184) rfl rfl (x_move (v := (Value.bool r229)) rfl rfl) ?_
            obtain ⟨J230, h, hk⟩ := h
            refine wpR_joinJ 5 (fun x ρ => ρ 95 = Value.bool x ∧ ρ 1 = (Value.string p1) ∧ ρ 2 = (Value.int .i64 p2) ∧ ρ 9 = (Value.pointer (some (Addr.mk b10 0 none))) ∧ ρ 86 = (Value.bool r11) ∧ True) (J230) ?_ ?_
            · clear hk
              rcases Bool.eq_false_or_eq_true (r229) with hc231 | hc231
              · replace h := h.1 hc231
                obtain ⟨x232, q232, x233, q233, x234, q234, x235, q235, x236, q236, x237, q237, x238, q238, x239, q239, x240, q240, x241, q241, x242, q242, x243, q243, x244, q244, x245, q245, x246, q246, x247, q247, x248, q248, x249, q249, x250, q250, x251, q251, x252, q252, x253, q253, h⟩ := h
                refine wpR_val (v := (V38 x232 x233 x234 x235 x236 x237 x238 x239 x240 x241 x242 x243 x244 x245 x246 x247 x248 x249 x250 x251 x252 x253)) (w' := w19) (wantG rfl rfl rfl hc231) rfl rfl (x_loadN (S38 x232 x233 x234 x235 x236 x237 x238 x239 x240 x241 x242 x243 x244 x245 x246 x247 x248 x249 x250 x251 x252 x253) rfl e8 SH_39 (K38 ⟨q232, q233, q234, q235, q236, q237, q238, q239, q240, q241, q242, q243, q244, q245, q246, q247, q248, q249, q250, q251, q252, q253⟩)) ?_
                refine wpR_val (v := (Value.string p1)) (w' := w19) (wantG rfl rfl rfl hc231) rfl rfl (x_move (v := (Value.string p1)) rfl e1) ?_
                refine wpR_val (v := (Value.int .i64 p2)) (w' := w19) (wantG rfl rfl rfl hc231) rfl rfl (x_move (v := (Value.int .i64 p2)) rfl e2) ?_
                refine wpR_enter (wantG rfl rfl rfl hc231) rfl rfl (x_call (vs := [(V38 x232 x233 x234 x235 x236 x237 x238 x239 x240 x241 x242 x243 x244 x245 x246 x247 x248 x249 x250 x251 x252 x253), (Value.string p1), (Value.int .i64 p2)]) rfl rfl (mapl_cons rfl (mapl_cons rfl (mapl_cons rfl mapl_nil))) Try.func16 NN_16 NB_16) (Calls.mono h ?_)
                rintro _ w20 ⟨r254, rfl, h⟩
                refine ⟨_, rfl, ?_⟩
                refine wpR_val (v := (Value.bool r254)) (w' := w20) (wantG rfl rfl rfl hc184) rfl rfl (x_pickT (v := (Value.bool r254)) rfl rfl hc231 rfl) ?_
                refine wpR_nil ?_
                exact ⟨r254, ⟨rfl, e1, e2, e9, rfl, trivial⟩, h⟩
              · replace h := h.2 hc231
                refine wpR_pass (wantN rfl rfl rfl hc231) rfl rfl ?_
                refine wpR_pass (wantN rfl rfl rfl hc231) rfl rfl ?_
                refine wpR_pass (wantN rfl rfl rfl hc231) rfl rfl ?_
                refine wpR_pass (wantN rfl rfl rfl hc231) rfl rfl ?_
                refine wpR_val (v := (Value.bool false)) (w' := w19) (wantG rfl rfl rfl hc184) rfl rfl (x_pickF (v := (Value.bool false)) rfl rfl hc231 rfl) ?_
                refine wpR_nil ?_
                exact ⟨false, ⟨rfl, e1, e2, e9, rfl, trivial⟩, h⟩
            clear h
            rintro c255 ρ w21 ⟨e95, e1, e2, e9, e86, -⟩ h
            replace h := hk c255 w21 h
            clear hk
            refine wpR_val (v := (Value.bool c255)) (w' := w21) (wantG rfl rfl e86 hc184) rfl rfl (x_move (v := (Value.bool c255)) rfl e95) ?_
            obtain ⟨J256, h, hk⟩ := h
            refine wpR_joinJ 6 (fun x ρ => ρ 102 = Value.bool x ∧ ρ 86 = (Value.bool r11) ∧ True) (J256) ?_ ?_
            · clear hk
              rcases Bool.eq_false_or_eq_true (c255) with hc257 | hc257
              · replace h := h.1 hc257
                obtain ⟨x258, q258, x259, q259, x260, q260, x261, q261, x262, q262, x263, q263, x264, q264, x265, q265, x266, q266, x267, q267, x268, q268, x269, q269, x270, q270, x271, q271, x272, q272, x273, q273, x274, q274, x275, q275, x276, q276, x277, q277, x278, q278, x279, q279, h⟩ := h
                refine wpR_val (v := (V38 x258 x259 x260 x261 x262 x263 x264 x265 x266 x267 x268 x269 x270 x271 x272 x273 x274 x275 x276 x277 x278 x279)) (w' := w21) (wantG rfl rfl rfl hc257) rfl rfl (x_loadN (S38 x258 x259 x260 x261 x262 x263 x264 x265 x266 x267 x268 x269 x270 x271 x272 x273 x274 x275 x276 x277 x278 x279) rfl e9 SH_39 (K38 ⟨q258, q259, q260, q261, q262, q263, q264, q265, q266, q267, q268, q269, q270, q271, q272, q273, q274, q275, q276, q277, q278, q279⟩)) ?_
                refine wpR_val (v := (Value.string p1)) (w' := w21) (wantG rfl rfl rfl hc257) rfl rfl (x_move (v := (Value.string p1)) rfl e1) ?_
                refine wpR_val (v := (Value.int .i64 p2)) (w' := w21) (wantG rfl rfl rfl hc257) rfl rfl (x_move (v := (Value.int .i64 p2)) rfl e2) ?_
                refine wpR_enter (wantG rfl rfl rfl hc257) rfl rfl (x_call (vs := [(V38 x258 x259 x260 x261 x262 x263 x264 x265 x266 x267 x268 x269 x270 x271 x272 x273 x274 x275 x276 x277 x278 x279), (Value.string p1), (Value.int .i64 p2)]) rfl rfl (mapl_cons rfl (mapl_cons rfl (mapl_cons rfl mapl_nil))) Try.func16 NN_16 NB_16) (Calls.mono h ?_)
                rintro _ w22 ⟨r280, rfl, h⟩
                refine ⟨_, rfl, ?_⟩
                refine wpR_val (v := (Value.bool (!r280))) (w' := w22) (wantG rfl rfl rfl hc257) rfl rfl (x_not rfl rfl) ?_
                refine wpR_val (v := (Value.bool (!r280))) (w' := w22) (wantG rfl rfl e86 hc184) rfl rfl (x_pickT (v := (Value.bool (!r280))) rfl rfl hc257 rfl) ?_
                refine wpR_nil ?_
                exact ⟨!r280, ⟨rfl, e86, trivial⟩, h⟩
              · replace h := h.2 hc257
                refine wpR_pass (wantN rfl rfl rfl hc257) rfl rfl ?_
                refine wpR_pass (wantN rfl rfl rfl hc257) rfl rfl ?_
                refine wpR_pass (wantN rfl rfl rfl hc257) rfl rfl ?_
                refine wpR_pass (wantN rfl rfl rfl hc257) rfl rfl ?_
                refine wpR_pass (wantN rfl rfl rfl hc257) rfl rfl ?_
                refine wpR_val (v := (Value.bool false)) (w' := w21) (wantG rfl rfl e86 hc184) rfl rfl (x_pickF (v := (Value.bool false)) rfl rfl hc257 rfl) ?_
                refine wpR_nil ?_
                exact ⟨false, ⟨rfl, e86, trivial⟩, h⟩
            clear h
            rintro c281 ρ w23 ⟨e102, e86, -⟩ h
            replace h := hk c281 w23 h
            clear hk
            refine wpR_val (v := (Value.bool (!c281))) (w' := w23) (wantG rfl rfl e86 hc184) rfl rfl (x_not rfl e102) ?_
            refine wpR_val (v := (Value.bool (!c281))) (w' := w23) rfl rfl rfl (x_pickT (v := (Value.bool (!c281))) rfl e86 hc184 rfl) ?_
            refine wpR_nil ?_
            exact ⟨!c281, ⟨rfl, trivial⟩, h⟩
          · replace h := h.2 hc184
            refine wpR_pass (wantN rfl rfl rfl hc184) rfl rfl ?_
            refine wpR_pass (wantN rfl rfl rfl hc184) rfl rfl ?_
            refine wpR_pass (wantN rfl rfl rfl hc184) rfl rfl ?_
            refine wpR_pass (wantN rfl rfl rfl hc184) rfl rfl ?_
            refine wpR_pass (wantU rfl rfl rfl) rfl rfl ?_
            refine wpR_pass (wantU rfl rfl rfl) rfl rfl ?_
            refine wpR_pass (wantU rfl rfl rfl) rfl rfl ?_
            refine wpR_pass (wantU rfl rfl rfl) rfl rfl ?_
            refine wpR_pass (wantN rfl rfl rfl hc184) rfl rfl ?_
            refine wpR_pass (wantN rfl rfl rfl hc184) rfl rfl ?_
            refine wpR_pass (wantU rfl rfl rfl) rfl rfl ?_
            refine wpR_pass (wantU rfl rfl rfl) rfl rfl ?_
            refine wpR_pass (wantU rfl rfl rfl) rfl rfl ?_
            refine wpR_pass (wantU rfl rfl rfl) rfl rfl ?_
            refine wpR_pass (wantU rfl rfl rfl) rfl rfl ?_
            refine wpR_pass (wantN rfl rfl rfl hc184) rfl rfl ?_
            refine wpR_pass (wantN rfl rfl rfl hc184) rfl rfl ?_
            refine wpR_val (v := (Value.bool false)) (w' := w18) rfl rfl rfl (x_pickF (v := (Value.bool false)) rfl rfl hc184 rfl) ?_
            refine wpR_nil ?_
            exact ⟨false, ⟨rfl, trivial⟩, h⟩
        clear h
        rintro c282 ρ w24 ⟨e104, -⟩ h
        replace h := hk c282 w24 h
        clear hk
        refine wpR_val (v := (Value.bool c282)) (w' := w24) rfl rfl rfl (x_assign (v := (Value.bool c282)) rfl e104) ?_
        refine wpR_nil ?_
        refine wpC_ret ?_
        exact ⟨.inl rfl, fun a ha => ⟨_, results_rep1 rfl ha rfl, c282, rfl, h⟩⟩

/-- lingualaw39.small -/
def F8  (w0 : World) (K : Bool → World → Prop) : Prop :=
  callC Try.prog 20 #[] (fun (r : Sl) => (Sl.v r)) w0 fun r9 w1 =>
  nw 9 #[(Value.string (ByteArray.mk #[106, 112, 103]))] w1 fun b10 w2 =>
  callC Try.prog 10 #[(Sl.v r9), (Value.string (ByteArray.mk #[98, 109, 112])), (Sl.v (⟨some ⟨b10, 0, none⟩, 1, 1⟩ : Sl)), (Value.int .i64 50)] (fun (r : Sl × Bool) => (Value.tuple #[(Sl.v r.1), (Value.bool r.2)])) w2 fun r11 w3 =>
  callC Try.prog 20 #[] (fun (r : Sl) => (Sl.v r)) w3 fun r12 w4 =>
  nw 9 #[(Value.string (ByteArray.mk #[106, 112, 103]))] w4 fun b13 w5 =>
  callC Try.prog 10 #[(Sl.v r12), (Value.string (ByteArray.mk #[98, 109, 112])), (Sl.v (⟨some ⟨b13, 0, none⟩, 1, 1⟩ : Sl)), (Value.int .i64 500)] (fun (r : Sl × Bool) => (Value.tuple #[(Sl.v r.1), (Value.bool r.2)])) w5 fun r14 w6 =>
  callC Try.prog 20 #[] (fun (r : Sl) => (Sl.v r)) w6 fun r15 w7 =>
  nw 9 #[(Value.string (ByteArray.mk #[106, 112, 103]))] w7 fun b16 w8 =>
  callC Try.prog 10 #[(Sl.v r15), (Value.string (ByteArray.mk #[112, 110, 103])), (Sl.v (⟨some ⟨b16, 0, none⟩, 1, 1⟩ : Sl)), (Value.int .i64 500)] (fun (r : Sl × Bool) => (Value.tuple #[(Sl.v r.1), (Value.bool r.2)])) w8 fun r17 w9 =>
  callC Try.prog 20 #[] (fun (r : Sl) => (Sl.v r)) w9 fun r18 w10 =>
  nw 9 #[(Value.string (ByteArray.mk #[112, 110, 103])), (Value.string (ByteArray.mk #[103, 105, 102]))] w10 fun b19 w11 =>
  callC Try.prog 10 #[(Sl.v r18), (Value.string (ByteArray.mk #[103, 105, 102])), (Sl.v (⟨some ⟨b19, 0, none⟩, 2, 2⟩ : Sl)), (Value.int .i64 1)] (fun (r : Sl × Bool) => (Value.tuple #[(Sl.v r.1), (Value.bool r.2)])) w11 fun r20 w12 =>
  jn (fun J27 => cnd (((r11.2 && r14.2) && (!r17.2)) && r20.2)
    (
    nw 3 #[(Value.int .i64 0), (Value.int .i64 1)] w12 fun b29 w13 =>
    callC Try.prog 13 #[(Sl.v r11.1), (Sl.v (⟨some ⟨b29, 0, none⟩, 2, 2⟩ : Sl))] (fun (r : Bool) => (Value.bool r)) w13 fun r30 w14 =>
    J27 r30 w14
    )
    (
    J27 false w12
    ))
  fun c31 w15 =>
  jn (fun J32 => cnd (c31)
    (
    nw 3 #[(Value.int .i64 2), (Value.int .i64 3)] w15 fun b34 w16 =>
    callC Try.prog 13 #[(Sl.v r14.1), (Sl.v (⟨some ⟨b34, 0, none⟩, 2, 2⟩ : Sl))] (fun (r : Bool) => (Value.bool r)) w16 fun r35 w17 =>
    J32 r35 w17
    )
    (
    J32 false w15
    ))
  fun c36 w18 =>
  K (c36 && (decide ((IntKind.i64.wrap ((r17.1.len : Int) + (r20.1.len : Int))) = 0))) w18
set_option maxRecDepth 100000 in
theorem D8  (w0 : World) (K : Bool → World → Prop) (h : F8  w0 K) : callC Try.prog 8 #[] (fun (r : Bool) => (Value.bool r)) w0 K := by
  unfold F8 at h
  refine calls_of_wpC Try.func8 rfl 62 rfl (by simp) ?_
  intro ρ hρ
  clear hρ
  refine wpC_seq ?_
  refine wpC_region ?_
  refine wpR_val (v := (Value.bool false)) (w' := w0) rfl rfl rfl (x_assign (v := (Value.bool false)) rfl rfl) ?_
  refine wpR_nil ?_
  refine wpC_seq ?_
  refine wpC_cut (fun ρ => True) trivial ?_
  rintro ρ -
  refine wpC_region ?_
  refine wpR_enter rfl rfl rfl (x_call (vs := []) rfl rfl mapl_nil Try.func20 NN_20 NB_20) (Calls.mono h ?_)
  rintro _ w1 ⟨r9, rfl, h⟩
  refine ⟨_, rfl, ?_⟩
  obtain ⟨b10, hb10⟩ : ∃ u, u = w1.heap.size := ⟨_, rfl⟩
  obtain ⟨w2, hw10⟩ : ∃ u, u = w1.alloc (.cells #[(Value.string (ByteArray.mk #[106, 112, 103]))] 9) := ⟨_, rfl⟩
  replace h := h b10 w2 hb10 hw10
  refine wpR_val (v := (Sl.v (⟨some ⟨b10, 0, none⟩, 1, 1⟩ : Sl))) (w' := w2) rfl rfl rfl ((x_buildSlice (qs := [(0, (Value.string (ByteArray.mk #[106, 112, 103])))]) rfl (by rfl) (BS_23_1_0 (ByteArray.mk #[106, 112, 103]))).trans (by rw [← hb10, ← hw10])) ?_
  refine wpR_enter rfl rfl rfl (x_call (vs := [(Sl.v r9), (Value.string (ByteArray.mk #[98, 109, 112])), (Sl.v (⟨some ⟨b10, 0, none⟩, 1, 1⟩ : Sl)), (Value.int .i64 50)]) rfl rfl (mapl_cons rfl (mapl_cons rfl (mapl_cons rfl (mapl_cons rfl mapl_nil)))) Try.func10 NN_10 NB_10) (Calls.mono h ?_)
  rintro _ w3 ⟨r11, rfl, h⟩
  refine ⟨_, rfl, ?_⟩
  refine wpR_val (v := (Value.tuple #[(Sl.v r11.1), (Value.bool r11.2)])) (w' := w3) rfl rfl rfl (x_move (v := (Value.tuple #[(Sl.v r11.1), (Value.bool r11.2)])) rfl rfl) ?_
  refine wpR_val (v := (Sl.v r11.1)) (w' := w3) rfl rfl rfl (x_extract rfl rfl rfl) ?_
  refine wpR_val (v := (Value.bool r11.2)) (w' := w3) rfl rfl rfl (x_extract rfl rfl rfl) ?_
  refine wpR_val (v := (Sl.v r11.1)) (w' := w3) rfl rfl rfl (x_assign (v := (Sl.v r11.1)) rfl rfl) ?_
  refine wpR_val (v := (Value.bool r11.2)) (w' := w3) rfl rfl rfl (x_assign (v := (Value.bool r11.2)) rfl rfl) ?_
  refine wpR_nil ?_
  refine wpC_seq ?_
  refine wpC_cut (fun ρ => ρ 1 = (Sl.v r11.1) ∧ ρ 2 = (Value.bool r11.2) ∧ True) ⟨rfl, rfl, trivial⟩ ?_
  rintro ρ ⟨e1, e2, -⟩
  refine wpC_region ?_
  refine wpR_enter rfl rfl rfl (x_call (vs := []) rfl rfl mapl_nil Try.func20 NN_20 NB_20) (Calls.mono h ?_)
  rintro _ w4 ⟨r12, rfl, h⟩
  refine ⟨_, rfl, ?_⟩
  obtain ⟨b13, hb13⟩ : ∃ u, u = w4.heap.size := ⟨_, rfl⟩
  obtain ⟨w5, hw13⟩ : ∃ u, u = w4.alloc (.cells #[(Value.string (ByteArray.mk #[106, 112, 103]))] 9) := ⟨_, rfl⟩
  replace h := h b13 w5 hb13 hw13
  refine wpR_val (v := (Sl.v (⟨some ⟨b13, 0, none⟩, 1, 1⟩ : Sl))) (w' := w5) rfl rfl rfl ((x_buildSlice (qs := [(0, (Value.string (ByteArray.mk #[106, 112, 103])))]) rfl (by rfl) (BS_23_1_0 (ByteArray.mk #[106, 112, 103]))).trans (by rw [← hb13, ← hw13])) ?_
  refine wpR_enter rfl rfl rfl (x_call (vs := [(Sl.v r12), (Value.string (ByteArray.mk #[98, 109, 112])), (Sl.v (⟨some ⟨b13, 0, none⟩, 1, 1⟩ : Sl)), (Value.int .i64 500)]) rfl rfl (mapl_cons rfl (mapl_cons rfl (mapl_cons rfl (mapl_cons rfl mapl_nil)))) Try.func10 NN_10 NB_10) (Calls.mono h ?_)
  rintro _ w6 ⟨r14, rfl, h⟩
  refine ⟨_, rfl, ?_⟩
  refine wpR_val (v := (Value.tuple #[(Sl.v r14.1), (Value.bool r14.2)])) (w' := w6) rfl rfl rfl (x_move (v := (Value.tuple #[(Sl.v r14.1), (Value.bool r14.2)])) rfl rfl) ?_
  refine wpR_val (v := (Sl.v r14.1)) (w' := w6) rfl rfl rfl (x_extract rfl rfl rfl) ?_
  refine wpR_val (v := (Value.bool r14.2)) (w' := w6) rfl rfl rfl (x_extract rfl rfl rfl) ?_
  refine wpR_val (v := (Sl.v r14.1)) (w' := w6) rfl rfl rfl (x_assign (v := (Sl.v r14.1)) rfl rfl) ?_
  refine wpR_val (v := (Value.bool r14.2)) (w' := w6) rfl rfl rfl (x_assign (v := (Value.bool r14.2)) rfl rfl) ?_
  refine wpR_nil ?_
  refine wpC_seq ?_
  refine wpC_cut (fun ρ => ρ 1 = (Sl.v r11.1) ∧ ρ 2 = (Value.bool r11.2) ∧ ρ 3 = (Sl.v r14.1) ∧ ρ 4 = (Value.bool r14.2) ∧ True) ⟨e1, e2, rfl, rfl, trivial⟩ ?_
  rintro ρ ⟨e1, e2, e3, e4, -⟩
  refine wpC_region ?_
  refine wpR_enter rfl rfl rfl (x_call (vs := []) rfl rfl mapl_nil Try.func20 NN_20 NB_20) (Calls.mono h ?_)
  rintro _ w7 ⟨r15, rfl, h⟩
  refine ⟨_, rfl, ?_⟩
  obtain ⟨b16, hb16⟩ : ∃ u, u = w7.heap.size := ⟨_, rfl⟩
  obtain ⟨w8, hw16⟩ : ∃ u, u = w7.alloc (.cells #[(Value.string (ByteArray.mk #[106, 112, 103]))] 9) := ⟨_, rfl⟩
  replace h := h b16 w8 hb16 hw16
  refine wpR_val (v := (Sl.v (⟨some ⟨b16, 0, none⟩, 1, 1⟩ : Sl))) (w' := w8) rfl rfl rfl ((x_buildSlice (qs := [(0, (Value.string (ByteArray.mk #[106, 112, 103])))]) rfl (by rfl) (BS_23_1_0 (ByteArray.mk #[106, 112, 103]))).trans (by rw [← hb16, ← hw16])) ?_
  refine wpR_enter rfl rfl rfl (x_call (vs := [(Sl.v r15), (Value.string (ByteArray.mk #[112, 110, 103])), (Sl.v (⟨some ⟨b16, 0, none⟩, 1, 1⟩ : Sl)), (Value.int .i64 500)]) rfl rfl (mapl_cons rfl (mapl_cons rfl (mapl_cons rfl (mapl_cons rfl mapl_nil)))) Try.func10 NN_10 NB_10) (Calls.mono h ?_)
  rintro _ w9 ⟨r17, rfl, h⟩
  refine ⟨_, rfl, ?_⟩
  refine wpR_val (v := (Value.tuple #[(Sl.v r17.1), (Value.bool r17.2)])) (w' := w9) rfl rfl rfl (x_move (v := (Value.tuple #[(Sl.v r17.1), (Value.bool r17.2)])) rfl rfl) ?_
  refine wpR_val (v := (Sl.v r17.1)) (w' := w9) rfl rfl rfl (x_extract rfl rfl rfl) ?_
  refine wpR_val (v := (Value.bool r17.2)) (w' := w9) rfl rfl rfl (x_extract rfl rfl rfl) ?_
  refine wpR_val (v := (Sl.v r17.1)) (w' := w9) rfl rfl rfl (x_assign (v := (Sl.v r17.1)) rfl rfl) ?_
  refine wpR_val (v := (Value.bool r17.2)) (w' := w9) rfl rfl rfl (x_assign (v := (Value.bool r17.2)) rfl rfl) ?_
  refine wpR_nil ?_
  refine wpC_seq ?_
  refine wpC_cut (fun ρ => ρ 1 = (Sl.v r11.1) ∧ ρ 2 = (Value.bool r11.2) ∧ ρ 3 = (Sl.v r14.1) ∧ ρ 4 = (Value.bool r14.2) ∧ ρ 5 = (Sl.v r17.1) ∧ ρ 6 = (Value.bool r17.2) ∧ True) ⟨e1, e2, e3, e4, rfl, rfl, trivial⟩ ?_
  rintro ρ ⟨e1, e2, e3, e4, e5, e6, -⟩
  refine wpC_region ?_
  refine wpR_enter rfl rfl rfl (x_call (vs := []) rfl rfl mapl_nil Try.func20 NN_20 NB_20) (Calls.mono h ?_)
  rintro _ w10 ⟨r18, rfl, h⟩
  refine ⟨_, rfl, ?_⟩
  obtain ⟨b19, hb19⟩ : ∃ u, u = w10.heap.size := ⟨_, rfl⟩
  obtain ⟨w11, hw19⟩ : ∃ u, u = w10.alloc (.cells #[(Value.string (ByteArray.mk #[112, 110, 103])), (Value.string (ByteArray.mk #[103, 105, 102]))] 9) := ⟨_, rfl⟩
  replace h := h b19 w11 hb19 hw19
  refine wpR_val (v := (Sl.v (⟨some ⟨b19, 0, none⟩, 2, 2⟩ : Sl))) (w' := w11) rfl rfl rfl ((x_buildSlice (qs := [(0, (Value.string (ByteArray.mk #[112, 110, 103]))), (1, (Value.string (ByteArray.mk #[103, 105, 102])))]) rfl (by rfl) (BS_23_2_0_1 (ByteArray.mk #[112, 110, 103]) (ByteArray.mk #[103, 105, 102]))).trans (by rw [← hb19, ← hw19])) ?_
  refine wpR_enter rfl rfl rfl (x_call (vs := [(Sl.v r18), (Value.string (ByteArray.mk #[103, 105, 102])), (Sl.v (⟨some ⟨b19, 0, none⟩, 2, 2⟩ : Sl)), (Value.int .i64 1)]) rfl rfl (mapl_cons rfl (mapl_cons rfl (mapl_cons rfl (mapl_cons rfl mapl_nil)))) Try.func10 NN_10 NB_10) (Calls.mono h ?_)
  rintro _ w12 ⟨r20, rfl, h⟩
  refine ⟨_, rfl, ?_⟩
  refine wpR_val (v := (Value.tuple #[(Sl.v r20.1), (Value.bool r20.2)])) (w' := w12) rfl rfl rfl (x_move (v := (Value.tuple #[(Sl.v r20.1), (Value.bool r20.2)])) rfl rfl) ?_
  refine wpR_val (v := (Sl.v r20.1)) (w' := w12) rfl rfl rfl (x_extract rfl rfl rfl) ?_
  refine wpR_val (v := (Value.bool r20.2)) (w' := w12) rfl rfl rfl (x_extract rfl rfl rfl) ?_
  refine wpR_val (v := (Sl.v r20.1)) (w' := w12) rfl rfl rfl (x_assign (v := (Sl.v r20.1)) rfl rfl) ?_
  refine wpR_val (v := (Value.bool r20.2)) (w' := w12) rfl rfl rfl (x_assign (v := (Value.bool r20.2)) rfl rfl) ?_
  refine wpR_nil ?_
  refine wpC_seq ?_
  refine wpC_cut (fun ρ => ρ 1 = (Sl.v r11.1) ∧ ρ 2 = (Value.bool r11.2) ∧ ρ 3 = (Sl.v r14.1) ∧ ρ 4 = (Value.bool r14.2) ∧ ρ 5 = (Sl.v r17.1) ∧ ρ 6 = (Value.bool r17.2) ∧ ρ 7 = (Sl.v r20.1) ∧ ρ 8 = (Value.bool r20.2) ∧ True) ⟨e1, e2, e3, e4, e5, e6, rfl, rfl, trivial⟩ ?_
  rintro ρ ⟨e1, e2, e3, e4, e5, e6, e7, e8, -⟩
  refine wpC_region ?_
  refine wpR_val (v := (Value.bool r11.2)) (w' := w12) rfl rfl rfl (x_move (v := (Value.bool r11.2)) rfl e2) ?_
  refine wpR_val (v := (Value.bool r11.2)) (w' := w12) rfl rfl rfl (x_move (v := (Value.bool r11.2)) rfl rfl) ?_
  refine wpR_joinJ 2 (fun (_ : Unit) ρ => ρ 36 = Value.bool (r11.2 && r14.2) ∧ ρ 1 = (Sl.v r11.1) ∧ ρ 3 = (Sl.v r14.1) ∧ ρ 5 = (Sl.v r17.1) ∧ ρ 6 = (Value.bool r17.2) ∧ ρ 7 = (Sl.v r20.1) ∧ ρ 8 = (Value.bool r20.2) ∧ True) (fun _ w => w12 = w) ?_ ?_
  · clear h
    rcases Bool.eq_false_or_eq_true (r11.2) with hc22 | hc22
    · skip
      refine wpR_val (v := (Value.bool r14.2)) (w' := w12) (wantG rfl rfl rfl hc22) rfl rfl (x_move (v := (Value.bool r14.2)) rfl e4) ?_
      refine wpR_val (v := (Value.bool r14.2)) (w' := w12) rfl rfl rfl (x_pickT (v := (Value.bool r14.2)) rfl rfl hc22 rfl) ?_
      refine wpR_nil ?_
      exact ⟨(), ⟨(by rw [hc22]; rfl), e1, e3, e5, e6, e7, e8, trivial⟩, rfl⟩
    · skip
      refine wpR_pass (wantN rfl rfl rfl hc22) rfl rfl ?_
      refine wpR_val (v := (Value.bool false)) (w' := w12) rfl rfl rfl (x_pickF (v := (Value.bool false)) rfl rfl hc22 rfl) ?_
      refine wpR_nil ?_
      exact ⟨(), ⟨(by rw [hc22]; rfl), e1, e3, e5, e6, e7, e8, trivial⟩, rfl⟩
  rintro _ ρ wj ⟨e36, e1, e3, e5, e6, e7, e8, -⟩ rfl
  refine wpR_val (v := (Value.bool (r11.2 && r14.2))) (w' := w12) rfl rfl rfl (x_move (v := (Value.bool (r11.2 && r14.2))) rfl e36) ?_
  refine wpR_joinJ 3 (fun (_ : Unit) ρ => ρ 40 = Value.bool ((r11.2 && r14.2) && (!r17.2)) ∧ ρ 1 = (Sl.v r11.1) ∧ ρ 3 = (Sl.v r14.1) ∧ ρ 5 = (Sl.v r17.1) ∧ ρ 7 = (Sl.v r20.1) ∧ ρ 8 = (Value.bool r20.2) ∧ True) (fun _ w => w12 = w) ?_ ?_
  · clear h
    rcases Bool.eq_false_or_eq_true (r11.2 && r14.2) with hc24 | hc24
    · skip
      refine wpR_val (v := (Value.bool r17.2)) (w' := w12) (wantG rfl rfl rfl hc24) rfl rfl (x_move (v := (Value.bool r17.2)) rfl e6) ?_
      refine wpR_val (v := (Value.bool (!r17.2))) (w' := w12) (wantG rfl rfl rfl hc24) rfl rfl (x_not rfl rfl) ?_
      refine wpR_val (v := (Value.bool (!r17.2))) (w' := w12) rfl rfl rfl (x_pickT (v := (Value.bool (!r17.2))) rfl rfl hc24 rfl) ?_
      refine wpR_nil ?_
      exact ⟨(), ⟨(by rw [hc24]; rfl), e1, e3, e5, e7, e8, trivial⟩, rfl⟩
    · skip
      refine wpR_pass (wantN rfl rfl rfl hc24) rfl rfl ?_
      refine wpR_pass (wantN rfl rfl rfl hc24) rfl rfl ?_
      refine wpR_val (v := (Value.bool false)) (w' := w12) rfl rfl rfl (x_pickF (v := (Value.bool false)) rfl rfl hc24 rfl) ?_
      refine wpR_nil ?_
      exact ⟨(), ⟨(by rw [hc24]; rfl), e1, e3, e5, e7, e8, trivial⟩, rfl⟩
  rintro _ ρ wj ⟨e40, e1, e3, e5, e7, e8, -⟩ rfl
  refine wpR_val (v := (Value.bool ((r11.2 && r14.2) && (!r17.2)))) (w' := w12) rfl rfl rfl (x_move (v := (Value.bool ((r11.2 && r14.2) && (!r17.2)))) rfl e40) ?_
  refine wpR_joinJ 2 (fun (_ : Unit) ρ => ρ 43 = Value.bool (((r11.2 && r14.2) && (!r17.2)) && r20.2) ∧ ρ 1 = (Sl.v r11.1) ∧ ρ 3 = (Sl.v r14.1) ∧ ρ 5 = (Sl.v r17.1) ∧ ρ 7 = (Sl.v r20.1) ∧ True) (fun _ w => w12 = w) ?_ ?_
  · clear h
    rcases Bool.eq_false_or_eq_true ((r11.2 && r14.2) && (!r17.2)) with hc26 | hc26
    · skip
      refine wpR_val (v := (Value.bool r20.2)) (w' := w12) (wantG rfl rfl rfl hc26) rfl rfl (x_move (v := (Value.bool r20.2)) rfl e8) ?_
      refine wpR_val (v := (Value.bool r20.2)) (w' := w12) rfl rfl rfl (x_pickT (v := (Value.bool r20.2)) rfl rfl hc26 rfl) ?_
      refine wpR_nil ?_
      exact ⟨(), ⟨(by rw [hc26]; rfl), e1, e3, e5, e7, trivial⟩, rfl⟩
    · skip
      refine wpR_pass (wantN rfl rfl rfl hc26) rfl rfl ?_
      refine wpR_val (v := (Value.bool false)) (w' := w12) rfl rfl rfl (x_pickF (v := (Value.bool false)) rfl rfl hc26 rfl) ?_
      refine wpR_nil ?_
      exact ⟨(), ⟨(by rw [hc26]; rfl), e1, e3, e5, e7, trivial⟩, rfl⟩
  rintro _ ρ wj ⟨e43, e1, e3, e5, e7, -⟩ rfl
  refine wpR_val (v := (Value.bool (((r11.2 && r14.2) && (!r17.2)) && r20.2))) (w' := w12) rfl rfl rfl (x_move (v := (Value.bool (((r11.2 && r14.2) && (!r17.2)) && r20.2))) rfl e43) ?_
  obtain ⟨J27, h, hk⟩ := h
  refine wpR_joinJ 4 (fun x ρ => ρ 48 = Value.bool x ∧ ρ 3 = (Sl.v r14.1) ∧ ρ 5 = (Sl.v r17.1) ∧ ρ 7 = (Sl.v r20.1) ∧ True) (J27) ?_ ?_
  · clear hk
    rcases Bool.eq_false_or_eq_true (((r11.2 && r14.2) && (!r17.2)) && r20.2) with hc28 | hc28
    · replace h := h.1 hc28
      refine wpR_val (v := (Sl.v r11.1)) (w' := w12) (wantG rfl rfl rfl hc28) rfl rfl (x_move (v := (Sl.v r11.1)) rfl e1) ?_
      obtain ⟨b29, hb29⟩ : ∃ u, u = w12.heap.size := ⟨_, rfl⟩
      obtain ⟨w13, hw29⟩ : ∃ u, u = w12.alloc (.cells #[(Value.int .i64 0), (Value.int .i64 1)] 3) := ⟨_, rfl⟩
      replace h := h b29 w13 hb29 hw29
      refine wpR_val (v := (Sl.v (⟨some ⟨b29, 0, none⟩, 2, 2⟩ : Sl))) (w' := w13) (wantG rfl rfl rfl hc28) rfl rfl ((x_buildSlice (qs := [(0, (Value.int .i64 0)), (1, (Value.int .i64 1))]) rfl (by rfl) (BS_24_2_0_1 0 1)).trans (by rw [← hb29, ← hw29])) ?_
      refine wpR_enter (wantG rfl rfl rfl hc28) rfl rfl (x_call (vs := [(Sl.v r11.1), (Sl.v (⟨some ⟨b29, 0, none⟩, 2, 2⟩ : Sl))]) rfl rfl (mapl_cons rfl (mapl_cons rfl mapl_nil)) Try.func13 NN_13 NB_13) (Calls.mono h ?_)
      rintro _ w14 ⟨r30, rfl, h⟩
      refine ⟨_, rfl, ?_⟩
      refine wpR_val (v := (Value.bool r30)) (w' := w14) rfl rfl rfl (x_pickT (v := (Value.bool r30)) rfl rfl hc28 rfl) ?_
      refine wpR_nil ?_
      exact ⟨r30, ⟨rfl, e3, e5, e7, trivial⟩, h⟩
    · replace h := h.2 hc28
      refine wpR_pass (wantN rfl rfl rfl hc28) rfl rfl ?_
      refine wpR_pass (wantN rfl rfl rfl hc28) rfl rfl ?_
      refine wpR_pass (wantN rfl rfl rfl hc28) rfl rfl ?_
      refine wpR_val (v := (Value.bool false)) (w' := w12) rfl rfl rfl (x_pickF (v := (Value.bool false)) rfl rfl hc28 rfl) ?_
      refine wpR_nil ?_
      exact ⟨false, ⟨rfl, e3, e5, e7, trivial⟩, h⟩
  clear h
  rintro c31 ρ w15 ⟨e48, e3, e5, e7, -⟩ h
  replace h := hk c31 w15 h
  clear hk
  refine wpR_val (v := (Value.bool c31)) (w' := w15) rfl rfl rfl (x_move (v := (Value.bool c31)) rfl e48) ?_
  obtain ⟨J32, h, hk⟩ := h
  refine wpR_joinJ 4 (fun x ρ => ρ 53 = Value.bool x ∧ ρ 5 = (Sl.v r17.1) ∧ ρ 7 = (Sl.v r20.1) ∧ True) (J32) ?_ ?_
  · clear hk
    rcases Bool.eq_false_or_eq_true (c31) with hc33 | hc33
    · replace h := h.1 hc33
      refine wpR_val (v := (Sl.v r14.1)) (w' := w15) (wantG rfl rfl rfl hc33) rfl rfl (x_move (v := (Sl.v r14.1)) rfl e3) ?_
      obtain ⟨b34, hb34⟩ : ∃ u, u = w15.heap.size := ⟨_, rfl⟩
      obtain ⟨w16, hw34⟩ : ∃ u, u = w15.alloc (.cells #[(Value.int .i64 2), (Value.int .i64 3)] 3) := ⟨_, rfl⟩
      replace h := h b34 w16 hb34 hw34
      refine wpR_val (v := (Sl.v (⟨some ⟨b34, 0, none⟩, 2, 2⟩ : Sl))) (w' := w16) (wantG rfl rfl rfl hc33) rfl rfl ((x_buildSlice (qs := [(0, (Value.int .i64 2)), (1, (Value.int .i64 3))]) rfl (by rfl) (BS_24_2_0_1 2 3)).trans (by rw [← hb34, ← hw34])) ?_
      refine wpR_enter (wantG rfl rfl rfl hc33) rfl rfl (x_call (vs := [(Sl.v r14.1), (Sl.v (⟨some ⟨b34, 0, none⟩, 2, 2⟩ : Sl))]) rfl rfl (mapl_cons rfl (mapl_cons rfl mapl_nil)) Try.func13 NN_13 NB_13) (Calls.mono h ?_)
      rintro _ w17 ⟨r35, rfl, h⟩
      refine ⟨_, rfl, ?_⟩
      refine wpR_val (v := (Value.bool r35)) (w' := w17) rfl rfl rfl (x_pickT (v := (Value.bool r35)) rfl rfl hc33 rfl) ?_
      refine wpR_nil ?_
      exact ⟨r35, ⟨rfl, e5, e7, trivial⟩, h⟩
    · replace h := h.2 hc33
      refine wpR_pass (wantN rfl rfl rfl hc33) rfl rfl ?_
      refine wpR_pass (wantN rfl rfl rfl hc33) rfl rfl ?_
      refine wpR_pass (wantN rfl rfl rfl hc33) rfl rfl ?_
      refine wpR_val (v := (Value.bool false)) (w' := w15) rfl rfl rfl (x_pickF (v := (Value.bool false)) rfl rfl hc33 rfl) ?_
      refine wpR_nil ?_
      exact ⟨false, ⟨rfl, e5, e7, trivial⟩, h⟩
  clear h
  rintro c36 ρ w18 ⟨e53, e5, e7, -⟩ h
  replace h := hk c36 w18 h
  clear hk
  refine wpR_val (v := (Value.bool c36)) (w' := w18) rfl rfl rfl (x_move (v := (Value.bool c36)) rfl e53) ?_
  refine wpR_joinJ 7 (fun (_ : Unit) ρ => ρ 61 = Value.bool (c36 && (decide ((IntKind.i64.wrap ((r17.1.len : Int) + (r20.1.len : Int))) = 0))) ∧ True) (fun _ w => w18 = w) ?_ ?_
  · clear h
    rcases Bool.eq_false_or_eq_true (c36) with hc38 | hc38
    · skip
      refine wpR_val (v := (Sl.v r17.1)) (w' := w18) (wantG rfl rfl rfl hc38) rfl rfl (x_move (v := (Sl.v r17.1)) rfl e5) ?_
      refine wpR_val (v := (Value.int .i64 (r17.1.len : Int))) (w' := w18) (wantG rfl rfl rfl hc38) rfl rfl (x_lenS (s := r17.1) rfl rfl isSliceT_24) ?_
      refine wpR_val (v := (Sl.v r20.1)) (w' := w18) (wantG rfl rfl rfl hc38) rfl rfl (x_move (v := (Sl.v r20.1)) rfl e7) ?_
      refine wpR_val (v := (Value.int .i64 (r20.1.len : Int))) (w' := w18) (wantG rfl rfl rfl hc38) rfl rfl (x_lenS (s := r20.1) rfl rfl isSliceT_24) ?_
      refine wpR_val (v := (Value.int .i64 (IntKind.i64.wrap ((r17.1.len : Int) + (r20.1.len : Int))))) (w' := w18) (wantG rfl rfl rfl hc38) rfl rfl (x_add rfl rfl rfl) ?_
      refine wpR_val (v := (Value.bool (decide ((IntKind.i64.wrap ((r17.1.len : Int) + (r20.1.len : Int))) = 0)))) (w' := w18) (wantG rfl rfl rfl hc38) rfl rfl (x_eql rfl rfl rfl) ?_
      refine wpR_val (v := (Value.bool (decide ((IntKind.i64.wrap ((r17.1.len : Int) + (r20.1.len : Int))) = 0)))) (w' := w18) rfl rfl rfl (x_pickT (v := (Value.bool (decide ((IntKind.i64.wrap ((r17.1.len : Int) + (r20.1.len : Int))) = 0)))) rfl rfl hc38 rfl) ?_
      refine wpR_nil ?_
      exact ⟨(), ⟨(by rw [hc38]; rfl), trivial⟩, rfl⟩
    · skip
      refine wpR_pass (wantN rfl rfl rfl hc38) rfl rfl ?_
      refine wpR_pass (wantN rfl rfl rfl hc38) rfl rfl ?_
      refine wpR_pass (wantN rfl rfl rfl hc38) rfl rfl ?_
      refine wpR_pass (wantN rfl rfl rfl hc38) rfl rfl ?_
      refine wpR_pass (wantN rfl rfl rfl hc38) rfl rfl ?_
      refine wpR_pass (wantN rfl rfl rfl hc38) rfl rfl ?_
      refine wpR_val (v := (Value.bool false)) (w' := w18) rfl rfl rfl (x_pickF (v := (Value.bool false)) rfl rfl hc38 rfl) ?_
      refine wpR_nil ?_
      exact ⟨(), ⟨(by rw [hc38]; rfl), trivial⟩, rfl⟩
  rintro _ ρ wj ⟨e61, -⟩ rfl
  refine wpR_val (v := (Value.bool (c36 && (decide ((IntKind.i64.wrap ((r17.1.len : Int) + (r20.1.len : Int))) = 0))))) (w' := w18) rfl rfl rfl (x_assign (v := (Value.bool (c36 && (decide ((IntKind.i64.wrap ((r17.1.len : Int) + (r20.1.len : Int))) = 0))))) rfl e61) ?_
  refine wpR_nil ?_
  refine wpC_ret ?_
  exact ⟨.inl rfl, fun a ha => ⟨_, results_rep1 rfl ha rfl, c36 && (decide ((IntKind.i64.wrap ((r17.1.len : Int) + (r20.1.len : Int))) = 0)), rfl, h⟩⟩

/-- linguaref39.Few -/
def F9 (p0 : Sl) (p1 : ByteArray) (p2 : Sl) (w0 : World) (K : Bool → World → Prop) : Prop :=
  lp (fun (next9 : Int → World → Prop) l9 w1 =>
    cnd ((decide (l9 < (p0.len : Int))) && (decide (l9 ≤ 12)))
      (
      ix p0 l9 3 fun p13 =>
      ld Value.string (p13.add 0) w1 fun x14 =>
      jp (fun J15 => cnd (decide (20 < (x14.size : Int)))
        (
        J15 true
        )
        (
        ix p0 l9 3 fun p17 =>
        ld Value.string (p17.add 1) w1 fun x18 =>
        J15 (decide (20 < (x18.size : Int)))
        ))
      fun c19 =>
      cnd (c19)
        (
        K false w1
        )
        (
        next9 (IntKind.i64.wrap (l9 + 1)) w1
        )
      )
      (
      lp (fun (next21 : Int → World → Prop) l21 w2 =>
        cnd ((decide (l21 < (p2.len : Int))) && (decide (l21 ≤ 20)))
          (
          ix p2 l21 1 fun p25 =>
          ld Value.string p25 w2 fun x26 =>
          cnd (decide (20 < (x26.size : Int)))
            (
            K false w2
            )
            (
            next21 (IntKind.i64.wrap (l21 + 1)) w2
            )
          )
          (
          K (((decide ((p0.len : Int) ≤ 12)) && (decide ((p2.len : Int) ≤ 20))) && (decide ((p1.size : Int) ≤ 20))) w2
          )
      ) 0 w1
      )
  ) 0 w0
set_option maxRecDepth 100000 in
theorem D9 (p0 : Sl) (p1 : ByteArray) (p2 : Sl) (w0 : World) (K : Bool → World → Prop) (h : F9 p0 p1 p2 w0 K) : callC Try.prog 9 #[(Sl.v p0), (Value.string p1), (Sl.v p2)] (fun (r : Bool) => (Value.bool r)) w0 K := by
  unfold F9 at h
  refine calls_of_wpC Try.func9 rfl 64 rfl (by simp) ?_
  intro ρ hρ
  have e0 : ρ 0 = (Sl.v p0) := hρ 0
  have e1 : ρ 1 = (Value.string p1) := hρ 1
  have e2 : ρ 2 = (Sl.v p2) := hρ 2
  clear hρ
  refine wpC_seq ?_
  refine wpC_region ?_
  refine wpR_val (v := (Value.bool false)) (w' := w0) rfl rfl rfl (x_assign (v := (Value.bool false)) rfl rfl) ?_
  refine wpR_nil ?_
  refine wpC_seq ?_
  refine wpC_seq ?_
  refine wpC_cut (fun ρ => ρ 0 = (Sl.v p0) ∧ ρ 1 = (Value.string p1) ∧ ρ 2 = (Sl.v p2) ∧ True) ⟨e0, e1, e2, trivial⟩ ?_
  rintro ρ ⟨e0, e1, e2, -⟩
  refine wpC_region ?_
  refine wpR_val (v := (Value.int .i64 0)) (w' := w0) rfl rfl rfl (x_assign (v := (Value.int .i64 0)) rfl rfl) ?_
  refine wpR_nil ?_
  refine wpC_block ?_
  obtain ⟨I9, μ9, hI9, hr9⟩ := h
  refine wpC_loop (fun (x : Int) ρ => ρ 7 = (Value.int .i64 x) ∧ ρ 0 = (Sl.v p0) ∧ ρ 1 = (Value.string p1) ∧ ρ 2 = (Sl.v p2) ∧ True) I9 μ9 0 ⟨rfl, e0, e1, e2, trivial⟩ hI9 ?_
  rintro l9 ρ w1 ⟨e7, e0, e1, e2, -⟩ h
  replace h := hr9 l9 w1 h
  clear hr9 hI9
  refine wpC_seq ?_
  refine wpC_seq ?_
  refine wpC_region ?_
  refine wpR_val (v := (Value.int .i64 l9)) (w' := w1) rfl rfl rfl (x_move (v := (Value.int .i64 l9)) rfl e7) ?_
  refine wpR_val (v := (Sl.v p0)) (w' := w1) rfl rfl rfl (x_move (v := (Sl.v p0)) rfl e0) ?_
  refine wpR_val (v := (Value.int .i64 (p0.len : Int))) (w' := w1) rfl rfl rfl (x_lenS (s := p0) rfl rfl isSliceT_22) ?_
  refine wpR_val (v := (Value.bool (decide (l9 < (p0.len : Int))))) (w' := w1) rfl rfl rfl (x_lss rfl rfl rfl) ?_
  refine wpR_val (v := (Value.bool (decide (l9 < (p0.len : Int))))) (w' := w1) rfl rfl rfl (x_move (v := (Value.bool (decide (l9 < (p0.len : Int))))) rfl rfl) ?_
  refine wpR_joinJ 3 (fun (_ : Unit) ρ => ρ 16 = Value.bool ((decide (l9 < (p0.len : Int))) && (decide (l9 ≤ 12))) ∧ ρ 0 = (Sl.v p0) ∧ ρ 1 = (Value.string p1) ∧ ρ 2 = (Sl.v p2) ∧ ρ 7 = (Value.int .i64 l9) ∧ True) (fun _ w => w1 = w) ?_ ?_
  · clear h
    rcases Bool.eq_false_or_eq_true (decide (l9 < (p0.len : Int))) with hc11 | hc11
    · skip
      refine wpR_val (v := (Value.int .i64 l9)) (w' := w1) (wantG rfl rfl rfl hc11) rfl rfl (x_move (v := (Value.int .i64 l9)) rfl e7) ?_
      refine wpR_val (v := (Value.bool (decide (l9 ≤ 12)))) (w' := w1) (wantG rfl rfl rfl hc11) rfl rfl (x_leq rfl rfl rfl) ?_
      refine wpR_val (v := (Value.bool (decide (l9 ≤ 12)))) (w' := w1) rfl rfl rfl (x_pickT (v := (Value.bool (decide (l9 ≤ 12)))) rfl rfl hc11 rfl) ?_
      refine wpR_nil ?_
      exact ⟨(), ⟨(by rw [hc11]; rfl), e0, e1, e2, e7, trivial⟩, rfl⟩
    · skip
      refine wpR_pass (wantN rfl rfl rfl hc11) rfl rfl ?_
      refine wpR_pass (wantN rfl rfl rfl hc11) rfl rfl ?_
      refine wpR_val (v := (Value.bool false)) (w' := w1) rfl rfl rfl (x_pickF (v := (Value.bool false)) rfl rfl hc11 rfl) ?_
      refine wpR_nil ?_
      exact ⟨(), ⟨(by rw [hc11]; rfl), e0, e1, e2, e7, trivial⟩, rfl⟩
  rintro _ ρ wj ⟨e16, e0, e1, e2, e7, -⟩ rfl
  refine wpR_nil ?_
  refine wpC_cond (b := (decide (l9 < (p0.len : Int))) && (decide (l9 ≤ 12))) e16 (fun hc12 => ?_) (fun hc12 => ?_)
  · replace h := h.1 hc12
    refine wpC_skip ?_
    refine wpC_seq ?_
    refine wpC_block ?_
    refine wpC_seq ?_
    refine wpC_region ?_
    refine wpR_val (v := (Sl.v p0)) (w' := w1) rfl rfl rfl (x_move (v := (Sl.v p0)) rfl e0) ?_
    refine wpR_val (v := (Value.int .i64 l9)) (w' := w1) rfl rfl rfl (x_move (v := (Value.int .i64 l9)) rfl e7) ?_
    obtain ⟨q13, z13, r13, h⟩ := h
    generalize hp13 : z13.add ((l9 : Int).toNat * 3) = p13 at h
    refine wpR_val (v := (Value.pointer (some p13))) (w' := w1) rfl rfl rfl ((x_indexAddr (s := p0) rfl rfl rfl ES_22 q13 r13).trans (by rw [hp13])) ?_
    refine wpR_val (v := (Value.pointer (some (p13.add 0)))) (w' := w1) rfl rfl rfl (x_fieldAddr rfl rfl FA_36_0) ?_
    obtain ⟨x14, q14, h⟩ := h
    refine wpR_val (v := (Value.string x14)) (w' := w1) rfl rfl rfl (x_load1 rfl rfl SH_9 q14) ?_
    refine wpR_val (v := (Value.int .i64 (x14.size : Int))) (w' := w1) rfl rfl rfl (x_lenStr rfl rfl isStrT_9) ?_
    refine wpR_val (v := (Value.bool (decide (20 < (x14.size : Int))))) (w' := w1) rfl rfl rfl (x_gtr rfl rfl rfl) ?_
    refine wpR_val (v := (Value.bool (decide (20 < (x14.size : Int))))) (w' := w1) rfl rfl rfl (x_move (v := (Value.bool (decide (20 < (x14.size : Int))))) rfl rfl) ?_
    obtain ⟨J15, h, hk⟩ := h
    refine wpR_joinJ 8 (fun x ρ => ρ 34 = Value.bool x ∧ ρ 0 = (Sl.v p0) ∧ ρ 1 = (Value.string p1) ∧ ρ 2 = (Sl.v p2) ∧ ρ 7 = (Value.int .i64 l9) ∧ True) (fun x w => J15 x ∧ w1 = w) ?_ ?_
    · clear hk
      rcases Bool.eq_false_or_eq_true (decide (20 < (x14.size : Int))) with hc16 | hc16
      · replace h := h.1 hc16
        refine wpR_pass (wantN rfl rfl rfl hc16) rfl rfl ?_
        refine wpR_pass (wantN rfl rfl rfl hc16) rfl rfl ?_
        refine wpR_pass (wantN rfl rfl rfl hc16) rfl rfl ?_
        refine wpR_pass (wantN rfl rfl rfl hc16) rfl rfl ?_
        refine wpR_pass (wantN rfl rfl rfl hc16) rfl rfl ?_
        refine wpR_pass (wantN rfl rfl rfl hc16) rfl rfl ?_
        refine wpR_pass (wantN rfl rfl rfl hc16) rfl rfl ?_
        refine wpR_val (v := (Value.bool true)) (w' := w1) rfl rfl rfl (x_pickT (v := (Value.bool true)) rfl rfl hc16 rfl) ?_
        refine wpR_nil ?_
        exact ⟨true, ⟨rfl, e0, e1, e2, e7, trivial⟩, h, rfl⟩
      · replace h := h.2 hc16
        refine wpR_val (v := (Sl.v p0)) (w' := w1) (wantG rfl rfl rfl hc16) rfl rfl (x_move (v := (Sl.v p0)) rfl e0) ?_
        refine wpR_val (v := (Value.int .i64 l9)) (w' := w1) (wantG rfl rfl rfl hc16) rfl rfl (x_move (v := (Value.int .i64 l9)) rfl e7) ?_
        obtain ⟨q17, z17, r17, h⟩ := h
        generalize hp17 : z17.add ((l9 : Int).toNat * 3) = p17 at h
        refine wpR_val (v := (Value.pointer (some p17))) (w' := w1) (wantG rfl rfl rfl hc16) rfl rfl ((x_indexAddr (s := p0) rfl rfl rfl ES_22 q17 r17).trans (by rw [hp17])) ?_
        refine wpR_val (v := (Value.pointer (some (p17.add 1)))) (w' := w1) (wantG rfl rfl rfl hc16) rfl rfl (x_fieldAddr rfl rfl FA_36_1) ?_
        obtain ⟨x18, q18, h⟩ := h
        refine wpR_val (v := (Value.string x18)) (w' := w1) (wantG rfl rfl rfl hc16) rfl rfl (x_load1 rfl rfl SH_9 q18) ?_
        refine wpR_val (v := (Value.int .i64 (x18.size : Int))) (w' := w1) (wantG rfl rfl rfl hc16) rfl rfl (x_lenStr rfl rfl isStrT_9) ?_
        refine wpR_val (v := (Value.bool (decide (20 < (x18.size : Int))))) (w' := w1) (wantG rfl rfl rfl hc16) rfl rfl (x_gtr rfl rfl rfl) ?_
        refine wpR_val (v := (Value.bool (decide (20 < (x18.size : Int))))) (w' := w1) rfl rfl rfl (x_pickF (v := (Value.bool (decide (20 < (x18.size : Int))))) rfl rfl hc16 rfl) ?_
        refine wpR_nil ?_
        exact ⟨decide (20 < (x18.size : Int)), ⟨rfl, e0, e1, e2, e7, trivial⟩, h, rfl⟩
    clear h
    rintro c19 ρ wj ⟨e34, e0, e1, e2, e7, -⟩ ⟨h, rfl⟩
    replace h := hk c19 h
    clear hk
    refine wpR_nil ?_
    refine wpC_cond (b := c19) e34 (fun hc20 => ?_) (fun hc20 => ?_)
    · replace h := h.1 hc20
      refine wpC_seq ?_
      refine wpC_region ?_
      refine wpR_val (v := (Value.bool false)) (w' := w1) rfl rfl rfl (x_assign (v := (Value.bool false)) rfl rfl) ?_
      refine wpR_nil ?_
      refine wpC_ret ?_
      exact ⟨.inl rfl, fun a ha => ⟨_, results_rep1 rfl ha rfl, false, rfl, h⟩⟩
    · replace h := h.2 hc20
      refine wpC_skip ?_
      refine wpC_region ?_
      refine wpR_val (v := (Value.int .i64 l9)) (w' := w1) rfl rfl rfl (x_move (v := (Value.int .i64 l9)) rfl e7) ?_
      refine wpR_val (v := (Value.int .i64 (IntKind.i64.wrap (l9 + 1)))) (w' := w1) rfl rfl rfl (x_add rfl rfl rfl) ?_
      refine wpR_val (v := (Value.int .i64 (IntKind.i64.wrap (l9 + 1)))) (w' := w1) rfl rfl rfl (x_assign (v := (Value.int .i64 (IntKind.i64.wrap (l9 + 1)))) rfl rfl) ?_
      refine wpR_nil ?_
      exact ⟨IntKind.i64.wrap (l9 + 1), ⟨rfl, e0, e1, e2, trivial⟩, h⟩
  · replace h := h.2 hc12
    refine wpC_exit ?_
    refine wpC_seq ?_
    refine wpC_seq ?_
    refine wpC_region ?_
    refine wpR_val (v := (Value.int .i64 0)) (w' := w1) rfl rfl rfl (x_assign (v := (Value.int .i64 0)) rfl rfl) ?_
    refine wpR_nil ?_
    refine wpC_block ?_
    obtain ⟨I21, μ21, hI21, hr21⟩ := h
    refine wpC_loop (fun (x : Int) ρ => ρ 8 = (Value.int .i64 x) ∧ ρ 0 = (Sl.v p0) ∧ ρ 1 = (Value.string p1) ∧ ρ 2 = (Sl.v p2) ∧ True) I21 μ21 0 ⟨rfl, e0, e1, e2, trivial⟩ hI21 ?_
    rintro l21 ρ w2 ⟨e8, e0, e1, e2, -⟩ h
    replace h := hr21 l21 w2 h
    clear hr21 hI21
    refine wpC_seq ?_
    refine wpC_seq ?_
    refine wpC_region ?_
    refine wpR_val (v := (Value.int .i64 l21)) (w' := w2) rfl rfl rfl (x_move (v := (Value.int .i64 l21)) rfl e8) ?_
    refine wpR_val (v := (Sl.v p2)) (w' := w2) rfl rfl rfl (x_move (v := (Sl.v p2)) rfl e2) ?_
    refine wpR_val (v := (Value.int .i64 (p2.len : Int))) (w' := w2) rfl rfl rfl (x_lenS (s := p2) rfl rfl isSliceT_23) ?_
    refine wpR_val (v := (Value.bool (decide (l21 < (p2.len : Int))))) (w' := w2) rfl rfl rfl (x_lss rfl rfl rfl) ?_
    refine wpR_val (v := (Value.bool (decide (l21 < (p2.len : Int))))) (w' := w2) rfl rfl rfl (x_move (v := (Value.bool (decide (l21 < (p2.len : Int))))) rfl rfl) ?_
    refine wpR_joinJ 3 (fun (_ : Unit) ρ => ρ 42 = Value.bool ((decide (l21 < (p2.len : Int))) && (decide (l21 ≤ 20))) ∧ ρ 0 = (Sl.v p0) ∧ ρ 1 = (Value.string p1) ∧ ρ 2 = (Sl.v p2) ∧ ρ 8 = (Value.int .i64 l21) ∧ True) (fun _ w => w2 = w) ?_ ?_
    · clear h
      rcases Bool.eq_false_or_eq_true (decide (l21 < (p2.len : Int))) with hc23 | hc23
      · skip
        refine wpR_val (v := (Value.int .i64 l21)) (w' := w2) (wantG rfl rfl rfl hc23) rfl rfl (x_move (v := (Value.int .i64 l21)) rfl e8) ?_
        refine wpR_val (v := (Value.bool (decide (l21 ≤ 20)))) (w' := w2) (wantG rfl rfl rfl hc23) rfl rfl (x_leq rfl rfl rfl) ?_
        refine wpR_val (v := (Value.bool (decide (l21 ≤ 20)))) (w' := w2) rfl rfl rfl (x_pickT (v := (Value.bool (decide (l21 ≤ 20)))) rfl rfl hc23 rfl) ?_
        refine wpR_nil ?_
        exact ⟨(), ⟨(by rw [hc23]; rfl), e0, e1, e2, e8, trivial⟩, rfl⟩
      · skip
        refine wpR_pass (wantN rfl rfl rfl hc23) rfl rfl ?_
        refine wpR_pass (wantN rfl rfl rfl hc23) rfl rfl ?_
        refine wpR_val (v := (Value.bool false)) (w' := w2) rfl rfl rfl (x_pickF (v := (Value.bool false)) rfl rfl hc23 rfl) ?_
        refine wpR_nil ?_
        exact ⟨(), ⟨(by rw [hc23]; rfl), e0, e1, e2, e8, trivial⟩, rfl⟩
    rintro _ ρ wj ⟨e42, e0, e1, e2, e8, -⟩ rfl
    refine wpR_nil ?_
    refine wpC_cond (b := (decide (l21 < (p2.len : Int))) && (decide (l21 ≤ 20))) e42 (fun hc24 => ?_) (fun hc24 => ?_)
    · replace h := h.1 hc24
      refine wpC_skip ?_
      refine wpC_seq ?_
      refine wpC_block ?_
      refine wpC_seq ?_
      refine wpC_region ?_
      refine wpR_val (v := (Sl.v p2)) (w' := w2) rfl rfl rfl (x_move (v := (Sl.v p2)) rfl e2) ?_
      refine wpR_val (v := (Value.int .i64 l21)) (w' := w2) rfl rfl rfl (x_move (v := (Value.int .i64 l21)) rfl e8) ?_
      obtain ⟨q25, z25, r25, h⟩ := h
      generalize hp25 : z25.add ((l21 : Int).toNat * 1) = p25 at h
      refine wpR_val (v := (Value.pointer (some p25))) (w' := w2) rfl rfl rfl ((x_indexAddr (s := p2) rfl rfl rfl ES_23 q25 r25).trans (by rw [hp25])) ?_
      obtain ⟨x26, q26, h⟩ := h
      refine wpR_val (v := (Value.string x26)) (w' := w2) rfl rfl rfl (x_load1 rfl rfl SH_9 q26) ?_
      refine wpR_val (v := (Value.int .i64 (x26.size : Int))) (w' := w2) rfl rfl rfl (x_lenStr rfl rfl isStrT_9) ?_
      refine wpR_val (v := (Value.bool (decide (20 < (x26.size : Int))))) (w' := w2) rfl rfl rfl (x_gtr rfl rfl rfl) ?_
      refine wpR_nil ?_
      refine wpC_cond (b := decide (20 < (x26.size : Int))) rfl (fun hc27 => ?_) (fun hc27 => ?_)
      · replace h := h.1 hc27
        refine wpC_seq ?_
        refine wpC_cut (fun ρ => True) trivial ?_
        rintro ρ -
        refine wpC_region ?_
        refine wpR_val (v := (Value.bool false)) (w' := w2) rfl rfl rfl (x_assign (v := (Value.bool false)) rfl rfl) ?_
        refine wpR_nil ?_
        refine wpC_ret ?_
        exact ⟨.inl rfl, fun a ha => ⟨_, results_rep1 rfl ha rfl, false, rfl, h⟩⟩
      · replace h := h.2 hc27
        refine wpC_skip ?_
        refine wpC_cut (fun ρ => ρ 0 = (Sl.v p0) ∧ ρ 1 = (Value.string p1) ∧ ρ 2 = (Sl.v p2) ∧ ρ 8 = (Value.int .i64 l21) ∧ True) ⟨e0, e1, e2, e8, trivial⟩ ?_
        rintro ρ ⟨e0, e1, e2, e8, -⟩
        refine wpC_region ?_
        refine wpR_val (v := (Value.int .i64 l21)) (w' := w2) rfl rfl rfl (x_move (v := (Value.int .i64 l21)) rfl e8) ?_
        refine wpR_val (v := (Value.int .i64 (IntKind.i64.wrap (l21 + 1)))) (w' := w2) rfl rfl rfl (x_add rfl rfl rfl) ?_
        refine wpR_val (v := (Value.int .i64 (IntKind.i64.wrap (l21 + 1)))) (w' := w2) rfl rfl rfl (x_assign (v := (Value.int .i64 (IntKind.i64.wrap (l21 + 1)))) rfl rfl) ?_
        refine wpR_nil ?_
        exact ⟨IntKind.i64.wrap (l21 + 1), ⟨rfl, e0, e1, e2, trivial⟩, h⟩
    · replace h := h.2 hc24
      refine wpC_exit ?_
      refine wpC_seq ?_
      refine wpC_region ?_
      refine wpR_val (v := (Sl.v p0)) (w' := w2) rfl rfl rfl (x_move (v := (Sl.v p0)) rfl e0) ?_
      refine wpR_val (v := (Value.int .i64 (p0.len : Int))) (w' := w2) rfl rfl rfl (x_lenS (s := p0) rfl rfl isSliceT_22) ?_
      refine wpR_val (v := (Value.bool (decide ((p0.len : Int) ≤ 12)))) (w' := w2) rfl rfl rfl (x_leq rfl rfl rfl) ?_
      refine wpR_val (v := (Value.bool (decide ((p0.len : Int) ≤ 12)))) (w' := w2) rfl rfl rfl (x_move (v := (Value.bool (decide ((p0.len : Int) ≤ 12)))) rfl rfl) ?_
      refine wpR_joinJ 4 (fun (_ : Unit) ρ => ρ 58 = Value.bool ((decide ((p0.len : Int) ≤ 12)) && (decide ((p2.len : Int) ≤ 20))) ∧ ρ 1 = (Value.string p1) ∧ True) (fun _ w => w2 = w) ?_ ?_
      · clear h
        rcases Bool.eq_false_or_eq_true (decide ((p0.len : Int) ≤ 12)) with hc29 | hc29
        · skip
          refine wpR_val (v := (Sl.v p2)) (w' := w2) (wantG rfl rfl rfl hc29) rfl rfl (x_move (v := (Sl.v p2)) rfl e2) ?_
          refine wpR_val (v := (Value.int .i64 (p2.len : Int))) (w' := w2) (wantG rfl rfl rfl hc29) rfl rfl (x_lenS (s := p2) rfl rfl isSliceT_23) ?_
          refine wpR_val (v := (Value.bool (decide ((p2.len : Int) ≤ 20)))) (w' := w2) (wantG rfl rfl rfl hc29) rfl rfl (x_leq rfl rfl rfl) ?_
          refine wpR_val (v := (Value.bool (decide ((p2.len : Int) ≤ 20)))) (w' := w2) rfl rfl rfl (x_pickT (v := (Value.bool (decide ((p2.len : Int) ≤ 20)))) rfl rfl hc29 rfl) ?_
          refine wpR_nil ?_
          exact ⟨(), ⟨(by rw [hc29]; rfl), e1, trivial⟩, rfl⟩
        · skip
          refine wpR_pass (wantN rfl rfl rfl hc29) rfl rfl ?_
          refine wpR_pass (wantN rfl rfl rfl hc29) rfl rfl ?_
          refine wpR_pass (wantN rfl rfl rfl hc29) rfl rfl ?_
          refine wpR_val (v := (Value.bool false)) (w' := w2) rfl rfl rfl (x_pickF (v := (Value.bool false)) rfl rfl hc29 rfl) ?_
          refine wpR_nil ?_
          exact ⟨(), ⟨(by rw [hc29]; rfl), e1, trivial⟩, rfl⟩
      rintro _ ρ wj ⟨e58, e1, -⟩ rfl
      refine wpR_val (v := (Value.bool ((decide ((p0.len : Int) ≤ 12)) && (decide ((p2.len : Int) ≤ 20))))) (w' := w2) rfl rfl rfl (x_move (v := (Value.bool ((decide ((p0.len : Int) ≤ 12)) && (decide ((p2.len : Int) ≤ 20))))) rfl e58) ?_
      refine wpR_joinJ 4 (fun (_ : Unit) ρ => ρ 63 = Value.bool (((decide ((p0.len : Int) ≤ 12)) && (decide ((p2.len : Int) ≤ 20))) && (decide ((p1.size : Int) ≤ 20))) ∧ True) (fun _ w => w2 = w) ?_ ?_
      · clear h
        rcases Bool.eq_false_or_eq_true ((decide ((p0.len : Int) ≤ 12)) && (decide ((p2.len : Int) ≤ 20))) with hc31 | hc31
        · skip
          refine wpR_val (v := (Value.string p1)) (w' := w2) (wantG rfl rfl rfl hc31) rfl rfl (x_move (v := (Value.string p1)) rfl e1) ?_
          refine wpR_val (v := (Value.int .i64 (p1.size : Int))) (w' := w2) (wantG rfl rfl rfl hc31) rfl rfl (x_lenStr rfl rfl isStrT_9) ?_
          refine wpR_val (v := (Value.bool (decide ((p1.size : Int) ≤ 20)))) (w' := w2) (wantG rfl rfl rfl hc31) rfl rfl (x_leq rfl rfl rfl) ?_
          refine wpR_val (v := (Value.bool (decide ((p1.size : Int) ≤ 20)))) (w' := w2) rfl rfl rfl (x_pickT (v := (Value.bool (decide ((p1.size : Int) ≤ 20)))) rfl rfl hc31 rfl) ?_
          refine wpR_nil ?_
          exact ⟨(), ⟨(by rw [hc31]; rfl), trivial⟩, rfl⟩
        · skip
          refine wpR_pass (wantN rfl rfl rfl hc31) rfl rfl ?_
          refine wpR_pass (wantN rfl rfl rfl hc31) rfl rfl ?_
          refine wpR_pass (wantN rfl rfl rfl hc31) rfl rfl ?_
          refine wpR_val (v := (Value.bool false)) (w' := w2) rfl rfl rfl (x_pickF (v := (Value.bool false)) rfl rfl hc31 rfl) ?_
          refine wpR_nil ?_
          exact ⟨(), ⟨(by rw [hc31]; rfl), trivial⟩, rfl⟩
      rintro _ ρ wj ⟨e63, -⟩ rfl
      refine wpR_val (v := (Value.bool (((decide ((p0.len : Int) ≤ 12)) && (decide ((p2.len : Int) ≤ 20))) && (decide ((p1.size : Int) ≤ 20))))) (w' := w2) rfl rfl rfl (x_assign (v := (Value.bool (((decide ((p0.len : Int) ≤ 12)) && (decide ((p2.len : Int) ≤ 20))) && (decide ((p1.size : Int) ≤ 20))))) rfl e63) ?_
      refine wpR_nil ?_
      refine wpC_ret ?_
      exact ⟨.inl rfl, fun a ha => ⟨_, results_rep1 rfl ha rfl, ((decide ((p0.len : Int) ≤ 12)) && (decide ((p2.len : Int) ≤ 20))) && (decide ((p1.size : Int) ≤ 20)), rfl, h⟩⟩

/-- convert.Path -/
def F10 (p0 : Sl) (p1 : ByteArray) (p2 : Sl) (p3 : Int) (w0 : World) (K : (Sl × Bool) → World → Prop) : Prop :=
  cnd ((decide (200 < (p0.len : Int))) || (decide (p3 < 0)))
    (
    K (Sl.nil, false) w0
    )
    (
    rn Try.prog (Instr.makeMap 48 none) (fun (r : (Option Nat)) => (Value.map r)) w0 fun r12 w1 =>
    nw 3 #[] w1 fun b13 w2 =>
    rn0 Try.prog (Instr.mapUpdate 48 (Value.map r12) (Value.string p1) (Sl.v (⟨some ⟨b13, 0, none⟩, 0, 0⟩ : Sl))) w2 fun w3 =>
    nw 9 #[(Value.string p1)] w3 fun b15 w4 =>
    lp (fun (next16 : Sl → World → Prop) l16 w5 =>
      cnd (decide (0 < (l16.len : Int)))
        (
        ix l16 0 1 fun p18 =>
        ld Value.string p18 w5 fun x19 =>
        rn Try.prog (Instr.sliceAt 23 (Sl.v l16) (some (Value.int .i64 1)) none none) (fun (r : Sl) => (Sl.v r)) w5 fun r20 w6 =>
        callC Try.prog 21 #[(Sl.v p2), (Value.string x19)] (fun (r : Bool) => (Value.bool r)) w6 fun r21 w7 =>
        cnd (r21)
          (
          rn Try.prog (Instr.lookup 48 (Value.map r12) (Value.string x19) false) (fun (r : Sl) => (Sl.v r)) w7 fun r23 w8 =>
          K (r23, true) w8
          )
          (
          lp (fun (next24 : (Sl × Int) → World → Prop) l24 w9 =>
            cnd (decide (l24.2 < (p0.len : Int)))
              (
              jn (fun (J26 : Sl → World → Prop) =>
                ix p0 l24.2 3 fun p28 =>
                ld Value.string (p28.add 0) w9 fun x29 =>
                ld Value.string (p28.add 1) w9 fun x30 =>
                ld (Value.int .i64) (p28.add 2) w9 fun x31 =>
                nw 36 #[(Value.string (ByteArray.mk #[])), (Value.string (ByteArray.mk #[])), (Value.int .i64 0)] w9 fun b32 w11 =>
                st (Addr.mk b32 0 none) [(Value.string x29), (Value.string x30), (Value.int .i64 x31)] w11 fun w12 =>
                ld Value.string ((Addr.mk b32 0 none).add 0) w12 fun x34 =>
                jp (fun J35 => cnd (!beqS x34 x19)
                  (
                  J35 true
                  )
                  (
                  ld (Value.int .i64) ((Addr.mk b32 0 none).add 2) w12 fun x37 =>
                  J35 (decide (x37 < p3))
                  ))
                fun c38 =>
                cnd (c38)
                  (
                  J26 l24.1 w12
                  )
                  (
                  ld Value.string ((Addr.mk b32 0 none).add 1) w12 fun x40 =>
                  rn Try.prog (Instr.lookup 48 (Value.map r12) (Value.string x40) true) (fun (r : Sl × Bool) => (Value.tuple #[(Sl.v r.1), (Value.bool r.2)])) w12 fun r41 w13 =>
                  cnd (!r41.2)
                    (
                    jn (fun (J44 : Unit → World → Prop) => tk w13 fun w14 =>
                      ld Value.string ((Addr.mk b32 0 none).add 1) w14 fun x45 =>
                      (
                        rn Try.prog (Instr.lookup 48 (Value.map r12) (Value.string x19) false) (fun (r : Sl) => (Sl.v r)) w14 fun r46 w15 =>
                        (w15.cell? ((Addr.mk b32 0 none).add 1) = some (Value.string x45)) ∧
                        (
                          callC Try.prog 22 #[(Sl.v r46)] (fun (r : Sl) => (Sl.v r)) w15 fun r47 w16 =>
                          (w16.cell? ((Addr.mk b32 0 none).add 1) = some (Value.string x45)) ∧
                          nw 3 #[(Value.int .i64 l24.2)] w16 fun b48 w17 =>
                          (w17.cell? ((Addr.mk b32 0 none).add 1) = some (Value.string x45)) ∧
                          rn Try.prog (Builtin.append_ #[24, 24] 24 #[Sl.v r47, Sl.v (⟨some ⟨b48, 0, none⟩, 1, 1⟩ : Sl)]) Sl.v w17 fun r49 w18 =>
                          (w18.cell? ((Addr.mk b32 0 none).add 1) = some (Value.string x45)) ∧
                          rn0 Try.prog (Instr.mapUpdate 48 (Value.map r12) (Value.string x45) (Sl.v r49)) w18 fun w19 =>
                          J44 () w19
                        )
                        ∧
                        (
                          nw 3 #[(Value.int .i64 l24.2)] w15 fun b51 w20 =>
                          (w20.cell? ((Addr.mk b32 0 none).add 1) = some (Value.string x45)) ∧
                          callC Try.prog 22 #[(Sl.v r46)] (fun (r : Sl) => (Sl.v r)) w20 fun r52 w21 =>
                          (w21.cell? ((Addr.mk b32 0 none).add 1) = some (Value.string x45)) ∧
                          rn Try.prog (Builtin.append_ #[24, 24] 24 #[Sl.v r52, Sl.v (⟨some ⟨b51, 0, none⟩, 1, 1⟩ : Sl)]) Sl.v w21 fun r53 w22 =>
                          (w22.cell? ((Addr.mk b32 0 none).add 1) = some (Value.string x45)) ∧
                          rn0 Try.prog (Instr.mapUpdate 48 (Value.map r12) (Value.string x45) (Sl.v r53)) w22 fun w23 =>
                          J44 () w23
                        )
                      )
                      ∧
                      (
                        nw 3 #[(Value.int .i64 l24.2)] w14 fun b55 w24 =>
                        (w24.cell? ((Addr.mk b32 0 none).add 1) = some (Value.string x45)) ∧
                        rn Try.prog (Instr.lookup 48 (Value.map r12) (Value.string x19) false) (fun (r : Sl) => (Sl.v r)) w24 fun r56 w25 =>
                        (w25.cell? ((Addr.mk b32 0 none).add 1) = some (Value.string x45)) ∧
                        callC Try.prog 22 #[(Sl.v r56)] (fun (r : Sl) => (Sl.v r)) w25 fun r57 w26 =>
                        (w26.cell? ((Addr.mk b32 0 none).add 1) = some (Value.string x45)) ∧
                        rn Try.prog (Builtin.append_ #[24, 24] 24 #[Sl.v r57, Sl.v (⟨some ⟨b55, 0, none⟩, 1, 1⟩ : Sl)]) Sl.v w26 fun r58 w27 =>
                        (w27.cell? ((Addr.mk b32 0 none).add 1) = some (Value.string x45)) ∧
                        rn0 Try.prog (Instr.mapUpdate 48 (Value.map r12) (Value.string x45) (Sl.v r58)) w27 fun w28 =>
                        J44 () w28
                      )
                    )
                    fun _l60 w29 =>
                    ld Value.string ((Addr.mk b32 0 none).add 1) w29 fun x61 =>
                    nw 9 #[(Value.string x61)] w29 fun b62 w30 =>
                    rn Try.prog (Builtin.append_ #[23, 23] 23 #[Sl.v l24.1, Sl.v (⟨some ⟨b62, 0, none⟩, 1, 1⟩ : Sl)]) Sl.v w30 fun r63 w31 =>
                    J26 r63 w31
                    )
                    (
                    J26 l24.1 w13
                    )
                  )
              )
              fun l27 w10 =>
              next24 (l27, IntKind.i64.wrap (l24.2 + 1)) w10
              )
              (
              next16 l24.1 w9
              )
          ) (r20, 0) w7
          )
        )
        (
        K (Sl.nil, false) w5
        )
    ) (⟨some ⟨b15, 0, none⟩, 1, 1⟩ : Sl) w4
    )
set_option maxRecDepth 100000 in
theorem D10 (p0 : Sl) (p1 : ByteArray) (p2 : Sl) (p3 : Int) (w0 : World) (K : (Sl × Bool) → World → Prop) (h : F10 p0 p1 p2 p3 w0 K) : callC Try.prog 10 #[(Sl.v p0), (Value.string p1), (Sl.v p2), (Value.int .i64 p3)] (fun (r : Sl × Bool) => (Value.tuple #[(Sl.v r.1), (Value.bool r.2)])) w0 K := by
  unfold F10 at h
  refine calls_of_wpC Try.func10 rfl 86 rfl (by simp) ?_
  intro ρ hρ
  have e0 : ρ 0 = (Sl.v p0) := hρ 0
  have e1 : ρ 1 = (Value.string p1) := hρ 1
  have e2 : ρ 2 = (Sl.v p2) := hρ 2
  have e3 : ρ 3 = (Value.int .i64 p3) := hρ 3
  clear hρ
  refine wpC_seq ?_
  refine wpC_region ?_
  refine wpR_val (v := (Sl.v Sl.nil)) (w' := w0) rfl rfl rfl (x_assign (v := (Sl.v Sl.nil)) rfl rfl) ?_
  refine wpR_val (v := (Value.bool false)) (w' := w0) rfl rfl rfl (x_assign (v := (Value.bool false)) rfl rfl) ?_
  refine wpR_nil ?_
  refine wpC_seq ?_
  refine wpC_seq ?_
  refine wpC_cut (fun ρ => ρ 0 = (Sl.v p0) ∧ ρ 1 = (Value.string p1) ∧ ρ 2 = (Sl.v p2) ∧ ρ 3 = (Value.int .i64 p3) ∧ True) ⟨e0, e1, e2, e3, trivial⟩ ?_
  rintro ρ ⟨e0, e1, e2, e3, -⟩
  refine wpC_region ?_
  refine wpR_val (v := (Sl.v p0)) (w' := w0) rfl rfl rfl (x_move (v := (Sl.v p0)) rfl e0) ?_
  refine wpR_val (v := (Value.int .i64 (p0.len : Int))) (w' := w0) rfl rfl rfl (x_lenS (s := p0) rfl rfl isSliceT_22) ?_
  refine wpR_val (v := (Value.bool (decide (200 < (p0.len : Int))))) (w' := w0) rfl rfl rfl (x_gtr rfl rfl rfl) ?_
  refine wpR_val (v := (Value.bool (decide (200 < (p0.len : Int))))) (w' := w0) rfl rfl rfl (x_move (v := (Value.bool (decide (200 < (p0.len : Int))))) rfl rfl) ?_
  refine wpR_joinJ 3 (fun (_ : Unit) ρ => ρ 23 = Value.bool ((decide (200 < (p0.len : Int))) || (decide (p3 < 0))) ∧ ρ 0 = (Sl.v p0) ∧ ρ 1 = (Value.string p1) ∧ ρ 2 = (Sl.v p2) ∧ ρ 3 = (Value.int .i64 p3) ∧ True) (fun _ w => w0 = w) ?_ ?_
  · clear h
    rcases Bool.eq_false_or_eq_true (decide (200 < (p0.len : Int))) with hc10 | hc10
    · skip
      refine wpR_pass (wantN rfl rfl rfl hc10) rfl rfl ?_
      refine wpR_pass (wantN rfl rfl rfl hc10) rfl rfl ?_
      refine wpR_val (v := (Value.bool true)) (w' := w0) rfl rfl rfl (x_pickT (v := (Value.bool true)) rfl rfl hc10 rfl) ?_
      refine wpR_nil ?_
      exact ⟨(), ⟨(by rw [hc10]; rfl), e0, e1, e2, e3, trivial⟩, rfl⟩
    · skip
      refine wpR_val (v := (Value.int .i64 p3)) (w' := w0) (wantG rfl rfl rfl hc10) rfl rfl (x_move (v := (Value.int .i64 p3)) rfl e3) ?_
      refine wpR_val (v := (Value.bool (decide (p3 < 0)))) (w' := w0) (wantG rfl rfl rfl hc10) rfl rfl (x_lss rfl rfl rfl) ?_
      refine wpR_val (v := (Value.bool (decide (p3 < 0)))) (w' := w0) rfl rfl rfl (x_pickF (v := (Value.bool (decide (p3 < 0)))) rfl rfl hc10 rfl) ?_
      refine wpR_nil ?_
      exact ⟨(), ⟨(by rw [hc10]; rfl), e0, e1, e2, e3, trivial⟩, rfl⟩
  rintro _ ρ wj ⟨e23, e0, e1, e2, e3, -⟩ rfl
  refine wpR_nil ?_
  refine wpC_cond (b := (decide (200 < (p0.len : Int))) || (decide (p3 < 0))) e23 (fun hc11 => ?_) (fun hc11 => ?_)
  · replace h := h.1 hc11
    refine wpC_seq ?_
    refine wpC_region ?_
    refine wpR_val (v := (Sl.v Sl.nil)) (w' := w0) rfl rfl rfl (x_assign (v := (Sl.v Sl.nil)) rfl rfl) ?_
    refine wpR_val (v := (Value.bool false)) (w' := w0) rfl rfl rfl (x_assign (v := (Value.bool false)) rfl rfl) ?_
    refine wpR_nil ?_
    refine wpC_ret ?_
    exact ⟨.inl rfl, fun a ha => ⟨_, results_rep2 rfl ha rfl rfl, (Sl.nil, false), rfl, h⟩⟩
  · replace h := h.2 hc11
    refine wpC_skip ?_
    refine wpC_seq ?_
    refine wpC_region ?_
    obtain ⟨r12, w1, q12, h⟩ := h
    refine wpR_val (v := (Value.map r12)) (w' := w1) rfl rfl rfl (x_makeMap rfl rfl q12) ?_
    refine wpR_val (v := (Value.string p1)) (w' := w1) rfl rfl rfl (x_move (v := (Value.string p1)) rfl e1) ?_
    obtain ⟨b13, hb13⟩ : ∃ u, u = w1.heap.size := ⟨_, rfl⟩
    obtain ⟨w2, hw13⟩ : ∃ u, u = w1.alloc (.cells #[] 3) := ⟨_, rfl⟩
    replace h := h b13 w2 hb13 hw13
    refine wpR_val (v := (Sl.v (⟨some ⟨b13, 0, none⟩, 0, 0⟩ : Sl))) (w' := w2) rfl rfl rfl ((x_buildSlice (qs := []) rfl (by rfl) (BS_24_0_ )).trans (by rw [← hb13, ← hw13])) ?_
    obtain ⟨w3, q14, h⟩ := h
    refine wpR_skp (w' := w3) rfl rfl (x_insert rfl rfl rfl rfl q14) ?_
    refine wpR_val (v := (Value.map r12)) (w' := w3) rfl rfl rfl (x_move (v := (Value.map r12)) rfl rfl) ?_
    refine wpR_val (v := (Value.map r12)) (w' := w3) rfl rfl rfl (x_assign (v := (Value.map r12)) rfl rfl) ?_
    refine wpR_nil ?_
    refine wpC_seq ?_
    refine wpC_cut (fun ρ => ρ 0 = (Sl.v p0) ∧ ρ 1 = (Value.string p1) ∧ ρ 2 = (Sl.v p2) ∧ ρ 3 = (Value.int .i64 p3) ∧ ρ 10 = (Value.map r12) ∧ True) ⟨e0, e1, e2, e3, rfl, trivial⟩ ?_
    rintro ρ ⟨e0, e1, e2, e3, e10, -⟩
    refine wpC_region ?_
    refine wpR_val (v := (Value.string p1)) (w' := w3) rfl rfl rfl (x_move (v := (Value.string p1)) rfl e1) ?_
    obtain ⟨b15, hb15⟩ : ∃ u, u = w3.heap.size := ⟨_, rfl⟩
    obtain ⟨w4, hw15⟩ : ∃ u, u = w3.alloc (.cells #[(Value.string p1)] 9) := ⟨_, rfl⟩
    replace h := h b15 w4 hb15 hw15
    refine wpR_val (v := (Sl.v (⟨some ⟨b15, 0, none⟩, 1, 1⟩ : Sl))) (w' := w4) rfl rfl rfl ((x_buildSlice (qs := [(0, (Value.string p1))]) rfl (by rfl) (BS_23_1_0 p1)).trans (by rw [← hb15, ← hw15])) ?_
    refine wpR_val (v := (Sl.v (⟨some ⟨b15, 0, none⟩, 1, 1⟩ : Sl))) (w' := w4) rfl rfl rfl (x_assign (v := (Sl.v (⟨some ⟨b15, 0, none⟩, 1, 1⟩ : Sl))) rfl rfl) ?_
    refine wpR_nil ?_
    refine wpC_seq ?_
    refine wpC_block ?_
    obtain ⟨I16, μ16, hI16, hr16⟩ := h
    refine wpC_loop (fun (x : Sl) ρ => ρ 11 = (Sl.v x) ∧ ρ 0 = (Sl.v p0) ∧ ρ 2 = (Sl.v p2) ∧ ρ 3 = (Value.int .i64 p3) ∧ ρ 10 = (Value.map r12) ∧ True) I16 μ16 (⟨some ⟨b15, 0, none⟩, 1, 1⟩ : Sl) ⟨rfl, e0, e2, e3, e10, trivial⟩ hI16 ?_
    rintro l16 ρ w5 ⟨e11, e0, e2, e3, e10, -⟩ h
    replace h := hr16 l16 w5 h
    clear hr16 hI16
    refine wpC_seq ?_
    refine wpC_seq ?_
    refine wpC_region ?_
    refine wpR_val (v := (Sl.v l16)) (w' := w5) rfl rfl rfl (x_move (v := (Sl.v l16)) rfl e11) ?_
    refine wpR_val (v := (Value.int .i64 (l16.len : Int))) (w' := w5) rfl rfl rfl (x_lenS (s := l16) rfl rfl isSliceT_23) ?_
    refine wpR_val (v := (Value.bool (decide (0 < (l16.len : Int))))) (w' := w5) rfl rfl rfl (x_gtr rfl rfl rfl) ?_
    refine wpR_nil ?_
    refine wpC_cond (b := decide (0 < (l16.len : Int))) rfl (fun hc17 => ?_) (fun hc17 => ?_)
    · replace h := h.1 hc17
      refine wpC_skip ?_
      refine wpC_block ?_
      refine wpC_seq ?_
      refine wpC_cut (fun ρ => ρ 0 = (Sl.v p0) ∧ ρ 2 = (Sl.v p2) ∧ ρ 3 = (Value.int .i64 p3) ∧ ρ 10 = (Value.map r12) ∧ ρ 11 = (Sl.v l16) ∧ True) ⟨e0, e2, e3, e10, e11, trivial⟩ ?_
      rintro ρ ⟨e0, e2, e3, e10, e11, -⟩
      refine wpC_region ?_
      refine wpR_val (v := (Sl.v l16)) (w' := w5) rfl rfl rfl (x_move (v := (Sl.v l16)) rfl e11) ?_
      obtain ⟨q18, z18, r18, h⟩ := h
      generalize hp18 : z18.add ((0 : Int).toNat * 1) = p18 at h
      refine wpR_val (v := (Value.pointer (some p18))) (w' := w5) rfl rfl rfl ((x_indexAddr (s := l16) rfl rfl rfl ES_23 q18 r18).trans (by rw [hp18])) ?_
      obtain ⟨x19, q19, h⟩ := h
      refine wpR_val (v := (Value.string x19)) (w' := w5) rfl rfl rfl (x_load1 rfl rfl SH_9 q19) ?_
      refine wpR_val (v := (Value.string x19)) (w' := w5) rfl rfl rfl (x_assign (v := (Value.string x19)) rfl rfl) ?_
      refine wpR_nil ?_
      refine wpC_seq ?_
      refine wpC_cut (fun ρ => ρ 0 = (Sl.v p0) ∧ ρ 2 = (Sl.v p2) ∧ ρ 3 = (Value.int .i64 p3) ∧ ρ 10 = (Value.map r12) ∧ ρ 11 = (Sl.v l16) ∧ ρ 12 = (Value.string x19) ∧ True) ⟨e0, e2, e3, e10, e11, rfl, trivial⟩ ?_
      rintro ρ ⟨e0, e2, e3, e10, e11, e12, -⟩
      refine wpC_region ?_
      refine wpR_val (v := (Sl.v l16)) (w' := w5) rfl rfl rfl (x_move (v := (Sl.v l16)) rfl e11) ?_
      obtain ⟨r20, w6, q20, h⟩ := h
      refine wpR_val (v := (Sl.v r20)) (w' := w6) rfl rfl rfl (x_sliceAt rfl rfl (congrArg some rfl) rfl rfl q20) ?_
      refine wpR_val (v := (Sl.v r20)) (w' := w6) rfl rfl rfl (x_assign (v := (Sl.v r20)) rfl rfl) ?_
      refine wpR_nil ?_
      refine wpC_seq ?_
      refine wpC_seq ?_
      refine wpC_cut (fun ρ => ρ 0 = (Sl.v p0) ∧ ρ 2 = (Sl.v p2) ∧ ρ 3 = (Value.int .i64 p3) ∧ ρ 10 = (Value.map r12) ∧ ρ 11 = (Sl.v r20) ∧ ρ 12 = (Value.string x19) ∧ True) ⟨e0, e2, e3, e10, rfl, e12, trivial⟩ ?_
      rintro ρ ⟨e0, e2, e3, e10, e11, e12, -⟩
      refine wpC_region ?_
      refine wpR_val (v := (Sl.v p2)) (w' := w6) rfl rfl rfl (x_move (v := (Sl.v p2)) rfl e2) ?_
      refine wpR_val (v := (Value.string x19)) (w' := w6) rfl rfl rfl (x_move (v := (Value.string x19)) rfl e12) ?_
      refine wpR_enter rfl rfl rfl (x_call (vs := [(Sl.v p2), (Value.string x19)]) rfl rfl (mapl_cons rfl (mapl_cons rfl mapl_nil)) Try.func21 NN_21 NB_21) (Calls.mono h ?_)
      rintro _ w7 ⟨r21, rfl, h⟩
      refine ⟨_, rfl, ?_⟩
      refine wpR_nil ?_
      refine wpC_cond (b := r21) rfl (fun hc22 => ?_) (fun hc22 => ?_)
      · replace h := h.1 hc22
        refine wpC_seq ?_
        refine wpC_cut (fun ρ => ρ 10 = (Value.map r12) ∧ ρ 12 = (Value.string x19) ∧ True) ⟨e10, e12, trivial⟩ ?_
        rintro ρ ⟨e10, e12, -⟩
        refine wpC_region ?_
        refine wpR_val (v := (Value.map r12)) (w' := w7) rfl rfl rfl (x_move (v := (Value.map r12)) rfl e10) ?_
        refine wpR_val (v := (Value.string x19)) (w' := w7) rfl rfl rfl (x_move (v := (Value.string x19)) rfl e12) ?_
        obtain ⟨r23, w8, q23, h⟩ := h
        refine wpR_val (v := (Sl.v r23)) (w' := w8) rfl rfl rfl (x_lookup rfl rfl rfl q23) ?_
        refine wpR_val (v := (Sl.v r23)) (w' := w8) rfl rfl rfl (x_assign (v := (Sl.v r23)) rfl rfl) ?_
        refine wpR_val (v := (Value.bool true)) (w' := w8) rfl rfl rfl (x_assign (v := (Value.bool true)) rfl rfl) ?_
        refine wpR_nil ?_
        refine wpC_ret ?_
        exact ⟨.inl rfl, fun a ha => ⟨_, results_rep2 rfl ha rfl rfl, (r23, true), rfl, h⟩⟩
      · replace h := h.2 hc22
        refine wpC_skip ?_
        refine wpC_seq ?_
        refine wpC_cut (fun ρ => ρ 0 = (Sl.v p0) ∧ ρ 2 = (Sl.v p2) ∧ ρ 3 = (Value.int .i64 p3) ∧ ρ 10 = (Value.map r12) ∧ ρ 11 = (Sl.v r20) ∧ ρ 12 = (Value.string x19) ∧ True) ⟨e0, e2, e3, e10, e11, e12, trivial⟩ ?_
        rintro ρ ⟨e0, e2, e3, e10, e11, e12, -⟩
        refine wpC_region ?_
        refine wpR_val (v := (Sl.v p0)) (w' := w7) rfl rfl rfl (x_move (v := (Sl.v p0)) rfl e0) ?_
        refine wpR_val (v := (Value.int .i64 (p0.len : Int))) (w' := w7) rfl rfl rfl (x_lenS (s := p0) rfl rfl isSliceT_22) ?_
        refine wpR_val (v := (Value.int .i64 0)) (w' := w7) rfl rfl rfl (x_move (v := (Value.int .i64 0)) rfl rfl) ?_
        refine wpR_nil ?_
        refine wpC_block ?_
        obtain ⟨I24, μ24, hI24, hr24⟩ := h
        refine wpC_loop (fun (x : Sl × Int) ρ => ρ 11 = (Sl.v x.1) ∧ ρ 46 = (Value.int .i64 x.2) ∧ ρ 0 = (Sl.v p0) ∧ ρ 2 = (Sl.v p2) ∧ ρ 3 = (Value.int .i64 p3) ∧ ρ 10 = (Value.map r12) ∧ ρ 12 = (Value.string x19) ∧ ρ 44 = (Sl.v p0) ∧ ρ 45 = (Value.int .i64 (p0.len : Int)) ∧ True) I24 μ24 (r20, 0) ⟨e11, rfl, e0, e2, e3, e10, e12, rfl, rfl, trivial⟩ hI24 ?_
        rintro l24 ρ w9 ⟨e11, e46, e0, e2, e3, e10, e12, e44, e45, -⟩ h
        replace h := hr24 l24 w9 h
        clear hr24 hI24
        refine wpC_seq ?_
        refine wpC_region ?_
        refine wpR_val (v := (Value.bool (decide (l24.2 < (p0.len : Int))))) (w' := w9) rfl rfl rfl (x_lss rfl e46 e45) ?_
        refine wpR_nil ?_
        refine wpC_seq ?_
        refine wpC_cond (b := decide (l24.2 < (p0.len : Int))) rfl (fun hc25 => ?_) (fun hc25 => ?_)
        · replace h := h.1 hc25
          refine wpC_skip ?_
          obtain ⟨J26, h, hk⟩ := h
          refine wpC_seqJ (fun (x : Sl) ρ => ρ 11 = (Sl.v x) ∧ ρ 0 = (Sl.v p0) ∧ ρ 2 = (Sl.v p2) ∧ ρ 3 = (Value.int .i64 p3) ∧ ρ 10 = (Value.map r12) ∧ ρ 12 = (Value.string x19) ∧ ρ 44 = (Sl.v p0) ∧ ρ 45 = (Value.int .i64 (p0.len : Int)) ∧ ρ 46 = (Value.int .i64 l24.2) ∧ True) J26 ?_ ?_
          · clear hk
            refine wpC_block ?_
            refine wpC_seq ?_
            refine wpC_cut (fun ρ => ρ 0 = (Sl.v p0) ∧ ρ 2 = (Sl.v p2) ∧ ρ 3 = (Value.int .i64 p3) ∧ ρ 10 = (Value.map r12) ∧ ρ 11 = (Sl.v l24.1) ∧ ρ 12 = (Value.string x19) ∧ ρ 44 = (Sl.v p0) ∧ ρ 45 = (Value.int .i64 (p0.len : Int)) ∧ ρ 46 = (Value.int .i64 l24.2) ∧ True) ⟨e0, e2, e3, e10, e11, e12, e44, e45, e46, trivial⟩ ?_
            rintro ρ ⟨e0, e2, e3, e10, e11, e12, e44, e45, e46, -⟩
            refine wpC_region ?_
            refine wpR_val (v := (Value.int .i64 l24.2)) (w' := w9) rfl rfl rfl (x_move (v := (Value.int .i64 l24.2)) rfl e46) ?_
            obtain ⟨q28, z28, r28, h⟩ := h
            generalize hp28 : z28.add ((l24.2 : Int).toNat * 3) = p28 at h
            refine wpR_val (v := (Value.pointer (some p28))) (w' := w9) rfl rfl rfl ((x_indexAddr (s := p0) rfl e44 e46 ES_22 q28 r28).trans (by rw [hp28])) ?_
            obtain ⟨x29, q29, x30, q30, x31, q31, h⟩ := h
            refine wpR_val (v := (Value.agg #[(Value.string x29), (Value.string x30), (Value.int .i64 x31)])) (w' := w9) rfl rfl rfl (x_loadN [(Value.string x29), (Value.string x30), (Value.int .i64 x31)] rfl rfl SH_36 (CellsAt.out (CellsAt.cons q29 (CellsAt.cons q30 (CellsAt.cons q31 CellsAt.nil))))) ?_
            obtain ⟨b32, hb32⟩ : ∃ u, u = w9.heap.size := ⟨_, rfl⟩
            obtain ⟨w11, hw32⟩ : ∃ u, u = w9.alloc (.cells #[(Value.string (ByteArray.mk #[])), (Value.string (ByteArray.mk #[])), (Value.int .i64 0)] 36) := ⟨_, rfl⟩
            replace h := h b32 w11 hb32 hw32
            refine wpR_val (v := (Value.pointer (some (Addr.mk b32 0 none)))) (w' := w11) rfl rfl rfl ((x_alloc rfl ZV_36).trans (by rw [hb32, hw32]; rfl)) ?_
            refine wpR_val (v := (Value.int .i64 l24.2)) (w' := w11) rfl rfl rfl (x_assign (v := (Value.int .i64 l24.2)) rfl rfl) ?_
            obtain ⟨q33, h⟩ := h
            obtain ⟨w12, hw33⟩ : ∃ u, u = setAll w11 (Addr.mk b32 0 none) [(Value.string x29), (Value.string x30), (Value.int .i64 x31)] 0 := ⟨_, rfl⟩
            replace h := h w12 hw33
            refine wpR_skp (w' := w12) rfl rfl ((x_store (v := (Value.agg #[(Value.string x29), (Value.string x30), (Value.int .i64 x31)])) rfl rfl rfl SZ_36 (ones (by rfl)) q33).trans (by rw [hw33]; rfl)) ?_
            refine wpR_nil ?_
            refine wpC_seq ?_
            refine wpC_seq ?_
            refine wpC_cut (fun ρ => ρ 0 = (Sl.v p0) ∧ ρ 2 = (Sl.v p2) ∧ ρ 3 = (Value.int .i64 p3) ∧ ρ 10 = (Value.map r12) ∧ ρ 11 = (Sl.v l24.1) ∧ ρ 12 = (Value.string x19) ∧ ρ 13 = (Value.int .i64 l24.2) ∧ ρ 14 = (Value.pointer (some (Addr.mk b32 0 none))) ∧ ρ 44 = (Sl.v p0) ∧ ρ 45 = (Value.int .i64 (p0.len : Int)) ∧ ρ 46 = (Value.int .i64 l24.2) ∧ True) ⟨e0, e2, e3, e10, e11, e12, rfl, rfl, e44, e45, e46, trivial⟩ ?_
            rintro ρ ⟨e0, e2, e3, e10, e11, e12, e13, e14, e44, e45, e46, -⟩
            refine wpC_region ?_
            refine wpR_val (v := (Value.pointer (some ((Addr.mk b32 0 none).add 0)))) (w' := w12) rfl rfl rfl (x_fieldAddr rfl e14 FA_36_0) ?_
            obtain ⟨x34, q34, h⟩ := h
            refine wpR_val (v := (Value.string x34)) (w' := w12) rfl rfl rfl (x_load1 rfl rfl SH_9 q34) ?_
            refine wpR_val (v := (Value.string x19)) (w' := w12) rfl rfl rfl (x_move (v := (Value.string x19)) rfl e12) ?_
            refine wpR_val (v := (Value.bool (!beqS x34 x19))) (w' := w12) rfl rfl rfl (x_neqS rfl rfl rfl) ?_
            refine wpR_val (v := (Value.bool (!beqS x34 x19))) (w' := w12) rfl rfl rfl (x_move (v := (Value.bool (!beqS x34 x19))) rfl rfl) ?_
            obtain ⟨J35, h, hk⟩ := h
            refine wpR_joinJ 5 (fun x ρ => ρ 60 = Value.bool x ∧ ρ 0 = (Sl.v p0) ∧ ρ 2 = (Sl.v p2) ∧ ρ 3 = (Value.int .i64 p3) ∧ ρ 10 = (Value.map r12) ∧ ρ 11 = (Sl.v l24.1) ∧ ρ 12 = (Value.string x19) ∧ ρ 13 = (Value.int .i64 l24.2) ∧ ρ 14 = (Value.pointer (some (Addr.mk b32 0 none))) ∧ ρ 44 = (Sl.v p0) ∧ ρ 45 = (Value.int .i64 (p0.len : Int)) ∧ ρ 46 = (Value.int .i64 l24.2) ∧ True) (fun x w => J35 x ∧ w12 = w) ?_ ?_
            · clear hk
              rcases Bool.eq_false_or_eq_true (!beqS x34 x19) with hc36 | hc36
              · replace h := h.1 hc36
                refine wpR_pass (wantN rfl rfl rfl hc36) rfl rfl ?_
                refine wpR_pass (wantN rfl rfl rfl hc36) rfl rfl ?_
                refine wpR_pass (wantN rfl rfl rfl hc36) rfl rfl ?_
                refine wpR_pass (wantN rfl rfl rfl hc36) rfl rfl ?_
                refine wpR_val (v := (Value.bool true)) (w' := w12) rfl rfl rfl (x_pickT (v := (Value.bool true)) rfl rfl hc36 rfl) ?_
                refine wpR_nil ?_
                exact ⟨true, ⟨rfl, e0, e2, e3, e10, e11, e12, e13, e14, e44, e45, e46, trivial⟩, h, rfl⟩
              · replace h := h.2 hc36
                refine wpR_val (v := (Value.int .i64 p3)) (w' := w12) (wantG rfl rfl rfl hc36) rfl rfl (x_move (v := (Value.int .i64 p3)) rfl e3) ?_
                refine wpR_val (v := (Value.pointer (some ((Addr.mk b32 0 none).add 2)))) (w' := w12) (wantG rfl rfl rfl hc36) rfl rfl (x_fieldAddr rfl e14 FA_36_2) ?_
                obtain ⟨x37, q37, h⟩ := h
                refine wpR_val (v := (Value.int .i64 x37)) (w' := w12) (wantG rfl rfl rfl hc36) rfl rfl (x_load1 rfl rfl SH_3 q37) ?_
                refine wpR_val (v := (Value.bool (decide (x37 < p3)))) (w' := w12) (wantG rfl rfl rfl hc36) rfl rfl (x_gtr rfl rfl rfl) ?_
                refine wpR_val (v := (Value.bool (decide (x37 < p3)))) (w' := w12) rfl rfl rfl (x_pickF (v := (Value.bool (decide (x37 < p3)))) rfl rfl hc36 rfl) ?_
                refine wpR_nil ?_
                exact ⟨decide (x37 < p3), ⟨rfl, e0, e2, e3, e10, e11, e12, e13, e14, e44, e45, e46, trivial⟩, h, rfl⟩
            clear h
            rintro c38 ρ wj ⟨e60, e0, e2, e3, e10, e11, e12, e13, e14, e44, e45, e46, -⟩ ⟨h, rfl⟩
            replace h := hk c38 h
            clear hk
            refine wpR_nil ?_
            refine wpC_cond (b := c38) e60 (fun hc39 => ?_) (fun hc39 => ?_)
            · replace h := h.1 hc39
              refine wpC_exit ?_
              exact ⟨l24.1, ⟨e11, e0, e2, e3, e10, e12, e44, e45, e46, trivial⟩, h⟩
            · replace h := h.2 hc39
              refine wpC_skip ?_
              refine wpC_seq ?_
              refine wpC_region ?_
              refine wpR_val (v := (Value.map r12)) (w' := w12) rfl rfl rfl (x_move (v := (Value.map r12)) rfl e10) ?_
              refine wpR_val (v := (Value.pointer (some ((Addr.mk b32 0 none).add 1)))) (w' := w12) rfl rfl rfl (x_fieldAddr rfl e14 FA_36_1) ?_
              obtain ⟨x40, q40, h⟩ := h
              refine wpR_val (v := (Value.string x40)) (w' := w12) rfl rfl rfl (x_load1 rfl rfl SH_9 q40) ?_
              obtain ⟨r41, w13, q41, h⟩ := h
              refine wpR_val (v := (Value.tuple #[(Sl.v r41.1), (Value.bool r41.2)])) (w' := w13) rfl rfl rfl (x_lookup rfl rfl rfl q41) ?_
              refine wpR_val (v := (Value.tuple #[(Sl.v r41.1), (Value.bool r41.2)])) (w' := w13) rfl rfl rfl (x_move (v := (Value.tuple #[(Sl.v r41.1), (Value.bool r41.2)])) rfl rfl) ?_
              refine wpR_val (v := (Sl.v r41.1)) (w' := w13) rfl rfl rfl (x_extract rfl rfl rfl) ?_
              refine wpR_val (v := (Value.bool r41.2)) (w' := w13) rfl rfl rfl (x_extract rfl rfl rfl) ?_
              refine wpR_val (v := (Sl.v r41.1)) (w' := w13) rfl rfl rfl (x_assign (v := (Sl.v r41.1)) rfl rfl) ?_
              refine wpR_val (v := (Value.bool r41.2)) (w' := w13) rfl rfl rfl (x_assign (v := (Value.bool r41.2)) rfl rfl) ?_
              refine wpR_nil ?_
              refine wpC_seq ?_
              refine wpC_cut (fun ρ => ρ 0 = (Sl.v p0) ∧ ρ 2 = (Sl.v p2) ∧ ρ 3 = (Value.int .i64 p3) ∧ ρ 10 = (Value.map r12) ∧ ρ 11 = (Sl.v l24.1) ∧ ρ 12 = (Value.string x19) ∧ ρ 13 = (Value.int .i64 l24.2) ∧ ρ 14 = (Value.pointer (some (Addr.mk b32 0 none))) ∧ ρ 16 = (Value.bool r41.2) ∧ ρ 44 = (Sl.v p0) ∧ ρ 45 = (Value.int .i64 (p0.len : Int)) ∧ ρ 46 = (Value.int .i64 l24.2) ∧ True) ⟨e0, e2, e3, e10, e11, e12, e13, e14, rfl, e44, e45, e46, trivial⟩ ?_
              rintro ρ ⟨e0, e2, e3, e10, e11, e12, e13, e14, e16, e44, e45, e46, -⟩
              refine wpC_region ?_
              refine wpR_val (v := (Value.bool r41.2)) (w' := w13) rfl rfl rfl (x_move (v := (Value.bool r41.2)) rfl e16) ?_
              refine wpR_val (v := (Value.bool (!r41.2))) (w' := w13) rfl rfl rfl (x_not rfl rfl) ?_
              refine wpR_nil ?_
              refine wpC_cond (b := !r41.2) rfl (fun hc42 => ?_) (fun hc42 => ?_)
              · replace h := h.1 hc42
                refine wpC_seq ?_
                refine wpC_cut (fun ρ => ρ 0 = (Sl.v p0) ∧ ρ 2 = (Sl.v p2) ∧ ρ 3 = (Value.int .i64 p3) ∧ ρ 10 = (Value.map r12) ∧ ρ 11 = (Sl.v l24.1) ∧ ρ 12 = (Value.string x19) ∧ ρ 13 = (Value.int .i64 l24.2) ∧ ρ 14 = (Value.pointer (some (Addr.mk b32 0 none))) ∧ ρ 44 = (Sl.v p0) ∧ ρ 45 = (Value.int .i64 (p0.len : Int)) ∧ ρ 46 = (Value.int .i64 l24.2) ∧ True) ⟨e0, e2, e3, e10, e11, e12, e13, e14, e44, e45, e46, trivial⟩ ?_
                rintro ρ ⟨e0, e2, e3, e10, e11, e12, e13, e14, e44, e45, e46, -⟩
                obtain ⟨J44, h, hk⟩ := h
                refine wpC_drawJ (by kernel_rfl) (fun (x : Unit) ρ => ρ 0 = (Sl.v p0) ∧ ρ 2 = (Sl.v p2) ∧ ρ 3 = (Value.int .i64 p3) ∧ ρ 10 = (Value.map r12) ∧ ρ 11 = (Sl.v l24.1) ∧ ρ 12 = (Value.string x19) ∧ ρ 14 = (Value.pointer (some (Addr.mk b32 0 none))) ∧ ρ 44 = (Sl.v p0) ∧ ρ 45 = (Value.int .i64 (p0.len : Int)) ∧ ρ 46 = (Value.int .i64 l24.2) ∧ True) J44 ?_ ?_
                · clear hk
                  unfold tk at h
                  generalize w13.drew = w14 at h ⊢
                  refine wpD_take (v := (Value.map r12)) 0 (fun _ => True) rfl (by kernel_rfl) (by kernel_rfl) (by kernel_rfl) rfl rfl rfl trivial (fun w _ => (x_move (v := (Value.map r12)) rfl e10)) ?_
                  refine wpD_take (v := (Value.pointer (some ((Addr.mk b32 0 none).add 1)))) 1 (fun _ => True) rfl (by kernel_rfl) (by kernel_rfl) (by kernel_rfl) rfl rfl rfl trivial (fun w _ => (x_fieldAddr rfl e14 FA_36_1)) ?_
                  obtain ⟨x45, q45, h⟩ := h
                  refine wpD_take (v := (Value.string x45)) 2 (fun w => w.cell? ((Addr.mk b32 0 none).add 1) = some (Value.string x45)) rfl (by kernel_rfl) (by kernel_rfl) (by kernel_rfl) rfl rfl rfl q45 (fun w q45 => (x_load1 rfl rfl SH_9 q45)) ?_
                  refine wpD_take (v := (Value.map r12)) 3 (fun _ => True) rfl (by kernel_rfl) (by kernel_rfl) (by kernel_rfl) rfl rfl rfl trivial (fun w _ => (x_move (v := (Value.map r12)) rfl e10)) ?_
                  refine wpD_take (v := (Value.string x19)) 4 (fun _ => True) rfl (by kernel_rfl) (by kernel_rfl) (by kernel_rfl) rfl rfl rfl trivial (fun w _ => (x_move (v := (Value.string x19)) rfl e12)) ?_
                  refine wpD_take (v := (Value.int .i64 l24.2)) 7 (fun _ => True) rfl (by kernel_rfl) (by kernel_rfl) (by kernel_rfl) rfl rfl rfl trivial (fun w _ => (x_move (v := (Value.int .i64 l24.2)) rfl e13)) ?_
                  refine wpD_all (rs := [5, 8]) (by kernel_rfl) (by simp) (allD_cons ?_ (allD_cons ?_ allD_nil))
                  · replace h := h.1
                    obtain ⟨r46, w15, q46, h⟩ := h
                    obtain ⟨o2, h⟩ := h
                    refine stepD_valL (L' := [(7, fun _ => True), (2, fun w => w.cell? ((Addr.mk b32 0 none).add 1) = some (Value.string x45)), (1, fun _ => True), (0, fun _ => True)]) (v := (Sl.v r46)) (w' := w15) rfl rfl rfl rfl (x_lookup rfl rfl rfl q46) (by kernel_rfl) (held_cons trivial (held_cons o2 (held_cons trivial (held_cons trivial held_nil)))) ?_
                    refine wpD_all (rs := [6, 8]) (by kernel_rfl) (by simp) (allD_cons ?_ (allD_cons ?_ allD_nil))
                    · replace h := h.1
                      refine stepD_enterL (L' := [(7, fun _ => True), (2, fun w => w.cell? ((Addr.mk b32 0 none).add 1) = some (Value.string x45)), (1, fun _ => True), (0, fun _ => True)]) rfl rfl rfl rfl (x_call (vs := [(Sl.v r46)]) rfl rfl (mapl_cons rfl mapl_nil) Try.func22 NN_22 NB_22) (by kernel_rfl) (Calls.mono h ?_)
                      rintro _ w16 ⟨r47, rfl, h⟩
                      obtain ⟨o2, h⟩ := h
                      refine ⟨_, rfl, (held_cons trivial (held_cons o2 (held_cons trivial (held_cons trivial held_nil)))), ?_⟩
                      refine wpD_all (rs := [8]) (by kernel_rfl) (by simp) (allD_cons ?_ allD_nil)
                      obtain ⟨b48, hb48⟩ : ∃ u, u = w16.heap.size := ⟨_, rfl⟩
                      obtain ⟨w17, hw48⟩ : ∃ u, u = w16.alloc (.cells #[(Value.int .i64 l24.2)] 3) := ⟨_, rfl⟩
                      replace h := h b48 w17 hb48 hw48
                      obtain ⟨o2, h⟩ := h
                      refine stepD_valL (L' := [(2, fun w => w.cell? ((Addr.mk b32 0 none).add 1) = some (Value.string x45)), (1, fun _ => True), (0, fun _ => True)]) (v := (Sl.v (⟨some ⟨b48, 0, none⟩, 1, 1⟩ : Sl))) (w' := w17) rfl rfl rfl rfl ((x_buildSlice (qs := [(0, (Value.int .i64 l24.2))]) rfl (by rfl) (BS_24_1_0 l24.2)).trans (by rw [← hb48, ← hw48])) (by kernel_rfl) (held_cons o2 (held_cons trivial (held_cons trivial held_nil))) ?_
                      refine wpD_all (rs := [9]) (by kernel_rfl) (by simp) (allD_cons ?_ allD_nil)
                      obtain ⟨r49, w18, q49, h⟩ := h
                      obtain ⟨o2, h⟩ := h
                      refine stepD_valL (L' := [(2, fun w => w.cell? ((Addr.mk b32 0 none).add 1) = some (Value.string x45)), (1, fun _ => True), (0, fun _ => True)]) (v := (Sl.v r49)) (w' := w18) rfl rfl rfl rfl (x_append (s := r47) (u := (⟨some ⟨b48, 0, none⟩, 1, 1⟩ : Sl)) rfl rfl rfl rfl q49) (by kernel_rfl) (held_cons o2 (held_cons trivial (held_cons trivial held_nil))) ?_
                      refine wpD_all (rs := [10]) (by kernel_rfl) (by simp) (allD_cons ?_ allD_nil)
                      obtain ⟨w19, q50, h⟩ := h
                      refine stepD_skpL (L' := []) (w' := w19) rfl rfl rfl (x_mapUpdate rfl rfl rfl rfl q50) (by kernel_rfl) held_nil ?_
                      exact wpD_done (by kernel_rfl) ⟨(), ⟨e0, e2, e3, e10, e11, e12, e14, e44, e45, e46, trivial⟩, h⟩
                    · replace h := h.2
                      obtain ⟨b51, hb51⟩ : ∃ u, u = w15.heap.size := ⟨_, rfl⟩
                      obtain ⟨w20, hw51⟩ : ∃ u, u = w15.alloc (.cells #[(Value.int .i64 l24.2)] 3) := ⟨_, rfl⟩
                      replace h := h b51 w20 hb51 hw51
                      obtain ⟨o2, h⟩ := h
                      refine stepD_valL (L' := [(2, fun w => w.cell? ((Addr.mk b32 0 none).add 1) = some (Value.string x45)), (1, fun _ => True), (0, fun _ => True)]) (v := (Sl.v (⟨some ⟨b51, 0, none⟩, 1, 1⟩ : Sl))) (w' := w20) rfl rfl rfl rfl ((x_buildSlice (qs := [(0, (Value.int .i64 l24.2))]) rfl (by rfl) (BS_24_1_0 l24.2)).trans (by rw [← hb51, ← hw51])) (by kernel_rfl) (held_cons o2 (held_cons trivial (held_cons trivial held_nil))) ?_
                      refine wpD_all (rs := [6]) (by kernel_rfl) (by simp) (allD_cons ?_ allD_nil)
                      refine stepD_enterL (L' := [(2, fun w => w.cell? ((Addr.mk b32 0 none).add 1) = some (Value.string x45)), (1, fun _ => True), (0, fun _ => True)]) rfl rfl rfl rfl (x_call (vs := [(Sl.v r46)]) rfl rfl (mapl_cons rfl mapl_nil) Try.func22 NN_22 NB_22) (by kernel_rfl) (Calls.mono h ?_)
                      rintro _ w21 ⟨r52, rfl, h⟩
                      obtain ⟨o2, h⟩ := h
                      refine ⟨_, rfl, (held_cons o2 (held_cons trivial (held_cons trivial held_nil))), ?_⟩
                      refine wpD_all (rs := [9]) (by kernel_rfl) (by simp) (allD_cons ?_ allD_nil)
                      obtain ⟨r53, w22, q53, h⟩ := h
                      obtain ⟨o2, h⟩ := h
                      refine stepD_valL (L' := [(2, fun w => w.cell? ((Addr.mk b32 0 none).add 1) = some (Value.string x45)), (1, fun _ => True), (0, fun _ => True)]) (v := (Sl.v r53)) (w' := w22) rfl rfl rfl rfl (x_append (s := r52) (u := (⟨some ⟨b51, 0, none⟩, 1, 1⟩ : Sl)) rfl rfl rfl rfl q53) (by kernel_rfl) (held_cons o2 (held_cons trivial (held_cons trivial held_nil))) ?_
                      refine wpD_all (rs := [10]) (by kernel_rfl) (by simp) (allD_cons ?_ allD_nil)
                      obtain ⟨w23, q54, h⟩ := h
                      refine stepD_skpL (L' := []) (w' := w23) rfl rfl rfl (x_mapUpdate rfl rfl rfl rfl q54) (by kernel_rfl) held_nil ?_
                      exact wpD_done (by kernel_rfl) ⟨(), ⟨e0, e2, e3, e10, e11, e12, e14, e44, e45, e46, trivial⟩, h⟩
                  · replace h := h.2
                    obtain ⟨b55, hb55⟩ : ∃ u, u = w14.heap.size := ⟨_, rfl⟩
                    obtain ⟨w24, hw55⟩ : ∃ u, u = w14.alloc (.cells #[(Value.int .i64 l24.2)] 3) := ⟨_, rfl⟩
                    replace h := h b55 w24 hb55 hw55
                    obtain ⟨o2, h⟩ := h
                    refine stepD_valL (L' := [(4, fun _ => True), (3, fun _ => True), (2, fun w => w.cell? ((Addr.mk b32 0 none).add 1) = some (Value.string x45)), (1, fun _ => True), (0, fun _ => True)]) (v := (Sl.v (⟨some ⟨b55, 0, none⟩, 1, 1⟩ : Sl))) (w' := w24) rfl rfl rfl rfl ((x_buildSlice (qs := [(0, (Value.int .i64 l24.2))]) rfl (by rfl) (BS_24_1_0 l24.2)).trans (by rw [← hb55, ← hw55])) (by kernel_rfl) (held_cons trivial (held_cons trivial (held_cons o2 (held_cons trivial (held_cons trivial held_nil))))) ?_
                    refine wpD_all (rs := [5]) (by kernel_rfl) (by simp) (allD_cons ?_ allD_nil)
                    obtain ⟨r56, w25, q56, h⟩ := h
                    obtain ⟨o2, h⟩ := h
                    refine stepD_valL (L' := [(2, fun w => w.cell? ((Addr.mk b32 0 none).add 1) = some (Value.string x45)), (1, fun _ => True), (0, fun _ => True)]) (v := (Sl.v r56)) (w' := w25) rfl rfl rfl rfl (x_lookup rfl rfl rfl q56) (by kernel_rfl) (held_cons o2 (held_cons trivial (held_cons trivial held_nil))) ?_
                    refine wpD_all (rs := [6]) (by kernel_rfl) (by simp) (allD_cons ?_ allD_nil)
                    refine stepD_enterL (L' := [(2, fun w => w.cell? ((Addr.mk b32 0 none).add 1) = some (Value.string x45)), (1, fun _ => True), (0, fun _ => True)]) rfl rfl rfl rfl (x_call (vs := [(Sl.v r56)]) rfl rfl (mapl_cons rfl mapl_nil) Try.func22 NN_22 NB_22) (by kernel_rfl) (Calls.mono h ?_)
                    rintro _ w26 ⟨r57, rfl, h⟩
                    obtain ⟨o2, h⟩ := h
                    refine ⟨_, rfl, (held_cons o2 (held_cons trivial (held_cons trivial held_nil))), ?_⟩
                    refine wpD_all (rs := [9]) (by kernel_rfl) (by simp) (allD_cons ?_ allD_nil)
                    obtain ⟨r58, w27, q58, h⟩ := h
                    obtain ⟨o2, h⟩ := h
                    refine stepD_valL (L' := [(2, fun w => w.cell? ((Addr.mk b32 0 none).add 1) = some (Value.string x45)), (1, fun _ => True), (0, fun _ => True)]) (v := (Sl.v r58)) (w' := w27) rfl rfl rfl rfl (x_append (s := r57) (u := (⟨some ⟨b55, 0, none⟩, 1, 1⟩ : Sl)) rfl rfl rfl rfl q58) (by kernel_rfl) (held_cons o2 (held_cons trivial (held_cons trivial held_nil))) ?_
                    refine wpD_all (rs := [10]) (by kernel_rfl) (by simp) (allD_cons ?_ allD_nil)
                    obtain ⟨w28, q59, h⟩ := h
                    refine stepD_skpL (L' := []) (w' := w28) rfl rfl rfl (x_mapUpdate rfl rfl rfl rfl q59) (by kernel_rfl) held_nil ?_
                    exact wpD_done (by kernel_rfl) ⟨(), ⟨e0, e2, e3, e10, e11, e12, e14, e44, e45, e46, trivial⟩, h⟩
                clear h
                rintro l60 ρ w29 ⟨e0, e2, e3, e10, e11, e12, e14, e44, e45, e46, -⟩ h
                replace h := hk l60 w29 h
                clear hk
                refine wpC_region ?_
                refine wpR_val (v := (Sl.v l24.1)) (w' := w29) rfl rfl rfl (x_move (v := (Sl.v l24.1)) rfl e11) ?_
                refine wpR_val (v := (Value.pointer (some ((Addr.mk b32 0 none).add 1)))) (w' := w29) rfl rfl rfl (x_fieldAddr rfl e14 FA_36_1) ?_
                obtain ⟨x61, q61, h⟩ := h
                refine wpR_val (v := (Value.string x61)) (w' := w29) rfl rfl rfl (x_load1 rfl rfl SH_9 q61) ?_
                obtain ⟨b62, hb62⟩ : ∃ u, u = w29.heap.size := ⟨_, rfl⟩
                obtain ⟨w30, hw62⟩ : ∃ u, u = w29.alloc (.cells #[(Value.string x61)] 9) := ⟨_, rfl⟩
                replace h := h b62 w30 hb62 hw62
                refine wpR_val (v := (Sl.v (⟨some ⟨b62, 0, none⟩, 1, 1⟩ : Sl))) (w' := w30) rfl rfl rfl ((x_buildSlice (qs := [(0, (Value.string x61))]) rfl (by rfl) (BS_23_1_0 x61)).trans (by rw [← hb62, ← hw62])) ?_
                obtain ⟨r63, w31, q63, h⟩ := h
                refine wpR_val (v := (Sl.v r63)) (w' := w31) rfl rfl rfl (x_append (s := l24.1) (u := (⟨some ⟨b62, 0, none⟩, 1, 1⟩ : Sl)) rfl rfl rfl rfl q63) ?_
                refine wpR_val (v := (Sl.v r63)) (w' := w31) rfl rfl rfl (x_assign (v := (Sl.v r63)) rfl rfl) ?_
                refine wpR_nil ?_
                exact ⟨r63, ⟨rfl, e0, e2, e3, e10, e12, e44, e45, e46, trivial⟩, h⟩
              · replace h := h.2 hc42
                refine wpC_skip ?_
                exact ⟨l24.1, ⟨e11, e0, e2, e3, e10, e12, e44, e45, e46, trivial⟩, h⟩
          clear h
          rintro l27 ρ w10 ⟨e11, e0, e2, e3, e10, e12, e44, e45, e46, -⟩ h
          replace h := hk l27 w10 h
          clear hk
          refine wpC_region ?_
          refine wpR_val (v := (Value.int .i64 (IntKind.i64.wrap (l24.2 + 1)))) (w' := w10) rfl rfl rfl (x_add rfl e46 rfl) ?_
          refine wpR_val (v := (Value.int .i64 (IntKind.i64.wrap (l24.2 + 1)))) (w' := w10) rfl rfl rfl (x_move (v := (Value.int .i64 (IntKind.i64.wrap (l24.2 + 1)))) rfl rfl) ?_
          refine wpR_nil ?_
          exact ⟨(l27, IntKind.i64.wrap (l24.2 + 1)), ⟨e11, rfl, e0, e2, e3, e10, e12, e44, e45, trivial⟩, h⟩
        · replace h := h.2 hc25
          refine wpC_exit ?_
          exact ⟨l24.1, ⟨e11, e0, e2, e3, e10, trivial⟩, h⟩
    · replace h := h.2 hc17
      refine wpC_exit ?_
      refine wpC_seq ?_
      refine wpC_cut (fun ρ => True) trivial ?_
      rintro ρ -
      refine wpC_region ?_
      refine wpR_val (v := (Sl.v Sl.nil)) (w' := w5) rfl rfl rfl (x_assign (v := (Sl.v Sl.nil)) rfl rfl) ?_
      refine wpR_val (v := (Value.bool false)) (w' := w5) rfl rfl rfl (x_assign (v := (Value.bool false)) rfl rfl) ?_
      refine wpR_nil ?_
      refine wpC_ret ?_
      exact ⟨.inl rfl, fun a ha => ⟨_, results_rep2 rfl ha rfl rfl, (Sl.nil, false), rfl, h⟩⟩

/-- linguaref39.Lead -/
def F11 (p0 : Sl) (p1 : ByteArray) (p2 : Sl) (p3 : Int) (w0 : World) (K : (ByteArray × Bool) → World → Prop) : Prop :=
  lp (fun (next9 : (ByteArray × Int) → World → Prop) l9 w1 =>
    cnd (decide (l9.2 < (p2.len : Int)))
      (
      ix p2 l9.2 1 fun p11 =>
      ld (Value.int .i64) p11 w1 fun x12 =>
      cnd ((decide (x12 < 0)) || (decide ((p0.len : Int) ≤ x12)))
        (
        K (ByteArray.mk #[], false) w1
        )
        (
        ix p0 x12 3 fun p16 =>
        ld Value.string (p16.add 0) w1 fun x17 =>
        jp (fun J18 => cnd (!beqS x17 l9.1)
          (
          J18 true
          )
          (
          ix p0 x12 3 fun p20 =>
          ld (Value.int .i64) (p20.add 2) w1 fun x21 =>
          J18 (decide (x21 < p3))
          ))
        fun c22 =>
        cnd (c22)
          (
          K (ByteArray.mk #[], false) w1
          )
          (
          ix p0 x12 3 fun p24 =>
          ld Value.string (p24.add 1) w1 fun x25 =>
          next9 (x25, IntKind.i64.wrap (l9.2 + 1)) w1
          )
        )
      )
      (
      K (l9.1, decide (0 ≤ p3)) w1
      )
  ) (p1, 0) w0
set_option maxRecDepth 100000 in
theorem D11 (p0 : Sl) (p1 : ByteArray) (p2 : Sl) (p3 : Int) (w0 : World) (K : (ByteArray × Bool) → World → Prop) (h : F11 p0 p1 p2 p3 w0 K) : callC Try.prog 11 #[(Sl.v p0), (Value.string p1), (Sl.v p2), (Value.int .i64 p3)] (fun (r : ByteArray × Bool) => (Value.tuple #[(Value.string r.1), (Value.bool r.2)])) w0 K := by
  unfold F11 at h
  refine calls_of_wpC Try.func11 rfl 54 rfl (by simp) ?_
  intro ρ hρ
  have e0 : ρ 0 = (Sl.v p0) := hρ 0
  have e1 : ρ 1 = (Value.string p1) := hρ 1
  have e2 : ρ 2 = (Sl.v p2) := hρ 2
  have e3 : ρ 3 = (Value.int .i64 p3) := hρ 3
  clear hρ
  refine wpC_seq ?_
  refine wpC_region ?_
  refine wpR_val (v := (Value.string (ByteArray.mk #[]))) (w' := w0) rfl rfl rfl (x_assign (v := (Value.string (ByteArray.mk #[]))) rfl rfl) ?_
  refine wpR_val (v := (Value.bool false)) (w' := w0) rfl rfl rfl (x_assign (v := (Value.bool false)) rfl rfl) ?_
  refine wpR_nil ?_
  refine wpC_seq ?_
  refine wpC_seq ?_
  refine wpC_cut (fun ρ => ρ 0 = (Sl.v p0) ∧ ρ 1 = (Value.string p1) ∧ ρ 2 = (Sl.v p2) ∧ ρ 3 = (Value.int .i64 p3) ∧ True) ⟨e0, e1, e2, e3, trivial⟩ ?_
  rintro ρ ⟨e0, e1, e2, e3, -⟩
  refine wpC_region ?_
  refine wpR_val (v := (Value.int .i64 0)) (w' := w0) rfl rfl rfl (x_assign (v := (Value.int .i64 0)) rfl rfl) ?_
  refine wpR_nil ?_
  refine wpC_block ?_
  obtain ⟨I9, μ9, hI9, hr9⟩ := h
  refine wpC_loop (fun (x : ByteArray × Int) ρ => ρ 1 = (Value.string x.1) ∧ ρ 10 = (Value.int .i64 x.2) ∧ ρ 0 = (Sl.v p0) ∧ ρ 2 = (Sl.v p2) ∧ ρ 3 = (Value.int .i64 p3) ∧ True) I9 μ9 (p1, 0) ⟨e1, rfl, e0, e2, e3, trivial⟩ hI9 ?_
  rintro l9 ρ w1 ⟨e1, e10, e0, e2, e3, -⟩ h
  replace h := hr9 l9 w1 h
  clear hr9 hI9
  refine wpC_seq ?_
  refine wpC_seq ?_
  refine wpC_region ?_
  refine wpR_val (v := (Value.int .i64 l9.2)) (w' := w1) rfl rfl rfl (x_move (v := (Value.int .i64 l9.2)) rfl e10) ?_
  refine wpR_val (v := (Sl.v p2)) (w' := w1) rfl rfl rfl (x_move (v := (Sl.v p2)) rfl e2) ?_
  refine wpR_val (v := (Value.int .i64 (p2.len : Int))) (w' := w1) rfl rfl rfl (x_lenS (s := p2) rfl rfl isSliceT_24) ?_
  refine wpR_val (v := (Value.bool (decide (l9.2 < (p2.len : Int))))) (w' := w1) rfl rfl rfl (x_lss rfl rfl rfl) ?_
  refine wpR_nil ?_
  refine wpC_cond (b := decide (l9.2 < (p2.len : Int))) rfl (fun hc10 => ?_) (fun hc10 => ?_)
  · replace h := h.1 hc10
    refine wpC_skip ?_
    refine wpC_seq ?_
    refine wpC_block ?_
    refine wpC_seq ?_
    refine wpC_cut (fun ρ => ρ 0 = (Sl.v p0) ∧ ρ 1 = (Value.string l9.1) ∧ ρ 2 = (Sl.v p2) ∧ ρ 3 = (Value.int .i64 p3) ∧ ρ 10 = (Value.int .i64 l9.2) ∧ True) ⟨e0, e1, e2, e3, e10, trivial⟩ ?_
    rintro ρ ⟨e0, e1, e2, e3, e10, -⟩
    refine wpC_region ?_
    refine wpR_val (v := (Sl.v p2)) (w' := w1) rfl rfl rfl (x_move (v := (Sl.v p2)) rfl e2) ?_
    refine wpR_val (v := (Value.int .i64 l9.2)) (w' := w1) rfl rfl rfl (x_move (v := (Value.int .i64 l9.2)) rfl e10) ?_
    obtain ⟨q11, z11, r11, h⟩ := h
    generalize hp11 : z11.add ((l9.2 : Int).toNat * 1) = p11 at h
    refine wpR_val (v := (Value.pointer (some p11))) (w' := w1) rfl rfl rfl ((x_indexAddr (s := p2) rfl rfl rfl ES_24 q11 r11).trans (by rw [hp11])) ?_
    obtain ⟨x12, q12, h⟩ := h
    refine wpR_val (v := (Value.int .i64 x12)) (w' := w1) rfl rfl rfl (x_load1 rfl rfl SH_3 q12) ?_
    refine wpR_val (v := (Value.int .i64 x12)) (w' := w1) rfl rfl rfl (x_assign (v := (Value.int .i64 x12)) rfl rfl) ?_
    refine wpR_nil ?_
    refine wpC_seq ?_
    refine wpC_seq ?_
    refine wpC_cut (fun ρ => ρ 0 = (Sl.v p0) ∧ ρ 1 = (Value.string l9.1) ∧ ρ 2 = (Sl.v p2) ∧ ρ 3 = (Value.int .i64 p3) ∧ ρ 10 = (Value.int .i64 l9.2) ∧ ρ 11 = (Value.int .i64 x12) ∧ True) ⟨e0, e1, e2, e3, e10, rfl, trivial⟩ ?_
    rintro ρ ⟨e0, e1, e2, e3, e10, e11, -⟩
    refine wpC_region ?_
    refine wpR_val (v := (Value.int .i64 x12)) (w' := w1) rfl rfl rfl (x_move (v := (Value.int .i64 x12)) rfl e11) ?_
    refine wpR_val (v := (Value.bool (decide (x12 < 0)))) (w' := w1) rfl rfl rfl (x_lss rfl rfl rfl) ?_
    refine wpR_val (v := (Value.bool (decide (x12 < 0)))) (w' := w1) rfl rfl rfl (x_move (v := (Value.bool (decide (x12 < 0)))) rfl rfl) ?_
    refine wpR_joinJ 5 (fun (_ : Unit) ρ => ρ 29 = Value.bool ((decide (x12 < 0)) || (decide ((p0.len : Int) ≤ x12))) ∧ ρ 0 = (Sl.v p0) ∧ ρ 1 = (Value.string l9.1) ∧ ρ 2 = (Sl.v p2) ∧ ρ 3 = (Value.int .i64 p3) ∧ ρ 10 = (Value.int .i64 l9.2) ∧ ρ 11 = (Value.int .i64 x12) ∧ True) (fun _ w => w1 = w) ?_ ?_
    · clear h
      rcases Bool.eq_false_or_eq_true (decide (x12 < 0)) with hc14 | hc14
      · skip
        refine wpR_pass (wantN rfl rfl rfl hc14) rfl rfl ?_
        refine wpR_pass (wantN rfl rfl rfl hc14) rfl rfl ?_
        refine wpR_pass (wantN rfl rfl rfl hc14) rfl rfl ?_
        refine wpR_pass (wantN rfl rfl rfl hc14) rfl rfl ?_
        refine wpR_val (v := (Value.bool true)) (w' := w1) rfl rfl rfl (x_pickT (v := (Value.bool true)) rfl rfl hc14 rfl) ?_
        refine wpR_nil ?_
        exact ⟨(), ⟨(by rw [hc14]; rfl), e0, e1, e2, e3, e10, e11, trivial⟩, rfl⟩
      · skip
        refine wpR_val (v := (Value.int .i64 x12)) (w' := w1) (wantG rfl rfl rfl hc14) rfl rfl (x_move (v := (Value.int .i64 x12)) rfl e11) ?_
        refine wpR_val (v := (Sl.v p0)) (w' := w1) (wantG rfl rfl rfl hc14) rfl rfl (x_move (v := (Sl.v p0)) rfl e0) ?_
        refine wpR_val (v := (Value.int .i64 (p0.len : Int))) (w' := w1) (wantG rfl rfl rfl hc14) rfl rfl (x_lenS (s := p0) rfl rfl isSliceT_22) ?_
        refine wpR_val (v := (Value.bool (decide ((p0.len : Int) ≤ x12)))) (w' := w1) (wantG rfl rfl rfl hc14) rfl rfl (x_geq rfl rfl rfl) ?_
        refine wpR_val (v := (Value.bool (decide ((p0.len : Int) ≤ x12)))) (w' := w1) rfl rfl rfl (x_pickF (v := (Value.bool (decide ((p0.len : Int) ≤ x12)))) rfl rfl hc14 rfl) ?_
        refine wpR_nil ?_
        exact ⟨(), ⟨(by rw [hc14]; rfl), e0, e1, e2, e3, e10, e11, trivial⟩, rfl⟩
    rintro _ ρ wj ⟨e29, e0, e1, e2, e3, e10, e11, -⟩ rfl
    refine wpR_nil ?_
    refine wpC_cond (b := (decide (x12 < 0)) || (decide ((p0.len : Int) ≤ x12))) e29 (fun hc15 => ?_) (fun hc15 => ?_)
    · replace h := h.1 hc15
      refine wpC_seq ?_
      refine wpC_region ?_
      refine wpR_val (v := (Value.string (ByteArray.mk #[]))) (w' := w1) rfl rfl rfl (x_assign (v := (Value.string (ByteArray.mk #[]))) rfl rfl) ?_
      refine wpR_val (v := (Value.bool false)) (w' := w1) rfl rfl rfl (x_assign (v := (Value.bool false)) rfl rfl) ?_
      refine wpR_nil ?_
      refine wpC_ret ?_
      exact ⟨.inl rfl, fun a ha => ⟨_, results_rep2 rfl ha rfl rfl, (ByteArray.mk #[], false), rfl, h⟩⟩
    · replace h := h.2 hc15
      refine wpC_skip ?_
      refine wpC_seq ?_
      refine wpC_seq ?_
      refine wpC_region ?_
      refine wpR_val (v := (Sl.v p0)) (w' := w1) rfl rfl rfl (x_move (v := (Sl.v p0)) rfl e0) ?_
      refine wpR_val (v := (Value.int .i64 x12)) (w' := w1) rfl rfl rfl (x_move (v := (Value.int .i64 x12)) rfl e11) ?_
      obtain ⟨q16, z16, r16, h⟩ := h
      generalize hp16 : z16.add ((x12 : Int).toNat * 3) = p16 at h
      refine wpR_val (v := (Value.pointer (some p16))) (w' := w1) rfl rfl rfl ((x_indexAddr (s := p0) rfl rfl rfl ES_22 q16 r16).trans (by rw [hp16])) ?_
      refine wpR_val (v := (Value.pointer (some (p16.add 0)))) (w' := w1) rfl rfl rfl (x_fieldAddr rfl rfl FA_36_0) ?_
      obtain ⟨x17, q17, h⟩ := h
      refine wpR_val (v := (Value.string x17)) (w' := w1) rfl rfl rfl (x_load1 rfl rfl SH_9 q17) ?_
      refine wpR_val (v := (Value.string l9.1)) (w' := w1) rfl rfl rfl (x_move (v := (Value.string l9.1)) rfl e1) ?_
      refine wpR_val (v := (Value.bool (!beqS x17 l9.1))) (w' := w1) rfl rfl rfl (x_neqS rfl rfl rfl) ?_
      refine wpR_val (v := (Value.bool (!beqS x17 l9.1))) (w' := w1) rfl rfl rfl (x_move (v := (Value.bool (!beqS x17 l9.1))) rfl rfl) ?_
      obtain ⟨J18, h, hk⟩ := h
      refine wpR_joinJ 8 (fun x ρ => ρ 45 = Value.bool x ∧ ρ 0 = (Sl.v p0) ∧ ρ 2 = (Sl.v p2) ∧ ρ 3 = (Value.int .i64 p3) ∧ ρ 10 = (Value.int .i64 l9.2) ∧ ρ 11 = (Value.int .i64 x12) ∧ True) (fun x w => J18 x ∧ w1 = w) ?_ ?_
      · clear hk
        rcases Bool.eq_false_or_eq_true (!beqS x17 l9.1) with hc19 | hc19
        · replace h := h.1 hc19
          refine wpR_pass (wantN rfl rfl rfl hc19) rfl rfl ?_
          refine wpR_pass (wantN rfl rfl rfl hc19) rfl rfl ?_
          refine wpR_pass (wantN rfl rfl rfl hc19) rfl rfl ?_
          refine wpR_pass (wantN rfl rfl rfl hc19) rfl rfl ?_
          refine wpR_pass (wantN rfl rfl rfl hc19) rfl rfl ?_
          refine wpR_pass (wantN rfl rfl rfl hc19) rfl rfl ?_
          refine wpR_pass (wantN rfl rfl rfl hc19) rfl rfl ?_
          refine wpR_val (v := (Value.bool true)) (w' := w1) rfl rfl rfl (x_pickT (v := (Value.bool true)) rfl rfl hc19 rfl) ?_
          refine wpR_nil ?_
          exact ⟨true, ⟨rfl, e0, e2, e3, e10, e11, trivial⟩, h, rfl⟩
        · replace h := h.2 hc19
          refine wpR_val (v := (Value.int .i64 p3)) (w' := w1) (wantG rfl rfl rfl hc19) rfl rfl (x_move (v := (Value.int .i64 p3)) rfl e3) ?_
          refine wpR_val (v := (Sl.v p0)) (w' := w1) (wantG rfl rfl rfl hc19) rfl rfl (x_move (v := (Sl.v p0)) rfl e0) ?_
          refine wpR_val (v := (Value.int .i64 x12)) (w' := w1) (wantG rfl rfl rfl hc19) rfl rfl (x_move (v := (Value.int .i64 x12)) rfl e11) ?_
          obtain ⟨q20, z20, r20, h⟩ := h
          generalize hp20 : z20.add ((x12 : Int).toNat * 3) = p20 at h
          refine wpR_val (v := (Value.pointer (some p20))) (w' := w1) (wantG rfl rfl rfl hc19) rfl rfl ((x_indexAddr (s := p0) rfl rfl rfl ES_22 q20 r20).trans (by rw [hp20])) ?_
          refine wpR_val (v := (Value.pointer (some (p20.add 2)))) (w' := w1) (wantG rfl rfl rfl hc19) rfl rfl (x_fieldAddr rfl rfl FA_36_2) ?_
          obtain ⟨x21, q21, h⟩ := h
          refine wpR_val (v := (Value.int .i64 x21)) (w' := w1) (wantG rfl rfl rfl hc19) rfl rfl (x_load1 rfl rfl SH_3 q21) ?_
          refine wpR_val (v := (Value.bool (decide (x21 < p3)))) (w' := w1) (wantG rfl rfl rfl hc19) rfl rfl (x_gtr rfl rfl rfl) ?_
          refine wpR_val (v := (Value.bool (decide (x21 < p3)))) (w' := w1) rfl rfl rfl (x_pickF (v := (Value.bool (decide (x21 < p3)))) rfl rfl hc19 rfl) ?_
          refine wpR_nil ?_
          exact ⟨decide (x21 < p3), ⟨rfl, e0, e2, e3, e10, e11, trivial⟩, h, rfl⟩
      clear h
      rintro c22 ρ wj ⟨e45, e0, e2, e3, e10, e11, -⟩ ⟨h, rfl⟩
      replace h := hk c22 h
      clear hk
      refine wpR_nil ?_
      refine wpC_cond (b := c22) e45 (fun hc23 => ?_) (fun hc23 => ?_)
      · replace h := h.1 hc23
        refine wpC_seq ?_
        refine wpC_region ?_
        refine wpR_val (v := (Value.string (ByteArray.mk #[]))) (w' := w1) rfl rfl rfl (x_assign (v := (Value.string (ByteArray.mk #[]))) rfl rfl) ?_
        refine wpR_val (v := (Value.bool false)) (w' := w1) rfl rfl rfl (x_assign (v := (Value.bool false)) rfl rfl) ?_
        refine wpR_nil ?_
        refine wpC_ret ?_
        exact ⟨.inl rfl, fun a ha => ⟨_, results_rep2 rfl ha rfl rfl, (ByteArray.mk #[], false), rfl, h⟩⟩
      · replace h := h.2 hc23
        refine wpC_skip ?_
        refine wpC_region ?_
        refine wpR_val (v := (Sl.v p0)) (w' := w1) rfl rfl rfl (x_move (v := (Sl.v p0)) rfl e0) ?_
        refine wpR_val (v := (Value.int .i64 x12)) (w' := w1) rfl rfl rfl (x_move (v := (Value.int .i64 x12)) rfl e11) ?_
        obtain ⟨q24, z24, r24, h⟩ := h
        generalize hp24 : z24.add ((x12 : Int).toNat * 3) = p24 at h
        refine wpR_val (v := (Value.pointer (some p24))) (w' := w1) rfl rfl rfl ((x_indexAddr (s := p0) rfl rfl rfl ES_22 q24 r24).trans (by rw [hp24])) ?_
        refine wpR_val (v := (Value.pointer (some (p24.add 1)))) (w' := w1) rfl rfl rfl (x_fieldAddr rfl rfl FA_36_1) ?_
        obtain ⟨x25, q25, h⟩ := h
        refine wpR_val (v := (Value.string x25)) (w' := w1) rfl rfl rfl (x_load1 rfl rfl SH_9 q25) ?_
        refine wpR_val (v := (Value.string x25)) (w' := w1) rfl rfl rfl (x_assign (v := (Value.string x25)) rfl rfl) ?_
        refine wpR_nil ?_
        refine wpC_cut (fun ρ => ρ 0 = (Sl.v p0) ∧ ρ 1 = (Value.string x25) ∧ ρ 2 = (Sl.v p2) ∧ ρ 3 = (Value.int .i64 p3) ∧ ρ 10 = (Value.int .i64 l9.2) ∧ True) ⟨e0, rfl, e2, e3, e10, trivial⟩ ?_
        rintro ρ ⟨e0, e1, e2, e3, e10, -⟩
        refine wpC_region ?_
        refine wpR_val (v := (Value.int .i64 l9.2)) (w' := w1) rfl rfl rfl (x_move (v := (Value.int .i64 l9.2)) rfl e10) ?_
        refine wpR_val (v := (Value.int .i64 (IntKind.i64.wrap (l9.2 + 1)))) (w' := w1) rfl rfl rfl (x_add rfl rfl rfl) ?_
        refine wpR_val (v := (Value.int .i64 (IntKind.i64.wrap (l9.2 + 1)))) (w' := w1) rfl rfl rfl (x_assign (v := (Value.int .i64 (IntKind.i64.wrap (l9.2 + 1)))) rfl rfl) ?_
        refine wpR_nil ?_
        exact ⟨(x25, IntKind.i64.wrap (l9.2 + 1)), ⟨e1, rfl, e0, e2, e3, trivial⟩, h⟩
  · replace h := h.2 hc10
    refine wpC_exit ?_
    refine wpC_seq ?_
    refine wpC_cut (fun ρ => ρ 1 = (Value.string l9.1) ∧ ρ 3 = (Value.int .i64 p3) ∧ True) ⟨e1, e3, trivial⟩ ?_
    rintro ρ ⟨e1, e3, -⟩
    refine wpC_region ?_
    refine wpR_val (v := (Value.string l9.1)) (w' := w1) rfl rfl rfl (x_move (v := (Value.string l9.1)) rfl e1) ?_
    refine wpR_val (v := (Value.int .i64 p3)) (w' := w1) rfl rfl rfl (x_move (v := (Value.int .i64 p3)) rfl e3) ?_
    refine wpR_val (v := (Value.bool (decide (0 ≤ p3)))) (w' := w1) rfl rfl rfl (x_geq rfl rfl rfl) ?_
    refine wpR_val (v := (Value.string l9.1)) (w' := w1) rfl rfl rfl (x_assign (v := (Value.string l9.1)) rfl rfl) ?_
    refine wpR_val (v := (Value.bool (decide (0 ≤ p3)))) (w' := w1) rfl rfl rfl (x_assign (v := (Value.bool (decide (0 ≤ p3)))) rfl rfl) ?_
    refine wpR_nil ?_
    refine wpC_ret ?_
    exact ⟨.inl rfl, fun a ha => ⟨_, results_rep2 rfl ha rfl rfl, (l9.1, decide (0 ≤ p3)), rfl, h⟩⟩

/-- linguaref39.Has -/
def F12 (p0 : Sl) (p1 : ByteArray) (w0 : World) (K : Bool → World → Prop) : Prop :=
  lp (fun (next9 : Int → World → Prop) l9 w1 =>
    cnd (decide (l9 < (p0.len : Int)))
      (
      ix p0 l9 1 fun p11 =>
      ld Value.string p11 w1 fun x12 =>
      cnd (beqS x12 p1)
        (
        K true w1
        )
        (
        next9 (IntKind.i64.wrap (l9 + 1)) w1
        )
      )
      (
      K false w1
      )
  ) 0 w0
set_option maxRecDepth 100000 in
theorem D12 (p0 : Sl) (p1 : ByteArray) (w0 : World) (K : Bool → World → Prop) (h : F12 p0 p1 w0 K) : callC Try.prog 12 #[(Sl.v p0), (Value.string p1)] (fun (r : Bool) => (Value.bool r)) w0 K := by
  unfold F12 at h
  refine calls_of_wpC Try.func12 rfl 18 rfl (by simp) ?_
  intro ρ hρ
  have e0 : ρ 0 = (Sl.v p0) := hρ 0
  have e1 : ρ 1 = (Value.string p1) := hρ 1
  clear hρ
  refine wpC_seq ?_
  refine wpC_region ?_
  refine wpR_val (v := (Value.bool false)) (w' := w0) rfl rfl rfl (x_assign (v := (Value.bool false)) rfl rfl) ?_
  refine wpR_nil ?_
  refine wpC_seq ?_
  refine wpC_seq ?_
  refine wpC_cut (fun ρ => ρ 0 = (Sl.v p0) ∧ ρ 1 = (Value.string p1) ∧ True) ⟨e0, e1, trivial⟩ ?_
  rintro ρ ⟨e0, e1, -⟩
  refine wpC_region ?_
  refine wpR_val (v := (Value.int .i64 0)) (w' := w0) rfl rfl rfl (x_assign (v := (Value.int .i64 0)) rfl rfl) ?_
  refine wpR_nil ?_
  refine wpC_block ?_
  obtain ⟨I9, μ9, hI9, hr9⟩ := h
  refine wpC_loop (fun (x : Int) ρ => ρ 5 = (Value.int .i64 x) ∧ ρ 0 = (Sl.v p0) ∧ ρ 1 = (Value.string p1) ∧ True) I9 μ9 0 ⟨rfl, e0, e1, trivial⟩ hI9 ?_
  rintro l9 ρ w1 ⟨e5, e0, e1, -⟩ h
  replace h := hr9 l9 w1 h
  clear hr9 hI9
  refine wpC_seq ?_
  refine wpC_seq ?_
  refine wpC_region ?_
  refine wpR_val (v := (Value.int .i64 l9)) (w' := w1) rfl rfl rfl (x_move (v := (Value.int .i64 l9)) rfl e5) ?_
  refine wpR_val (v := (Sl.v p0)) (w' := w1) rfl rfl rfl (x_move (v := (Sl.v p0)) rfl e0) ?_
  refine wpR_val (v := (Value.int .i64 (p0.len : Int))) (w' := w1) rfl rfl rfl (x_lenS (s := p0) rfl rfl isSliceT_23) ?_
  refine wpR_val (v := (Value.bool (decide (l9 < (p0.len : Int))))) (w' := w1) rfl rfl rfl (x_lss rfl rfl rfl) ?_
  refine wpR_nil ?_
  refine wpC_cond (b := decide (l9 < (p0.len : Int))) rfl (fun hc10 => ?_) (fun hc10 => ?_)
  · replace h := h.1 hc10
    refine wpC_skip ?_
    refine wpC_seq ?_
    refine wpC_block ?_
    refine wpC_seq ?_
    refine wpC_cut (fun ρ => ρ 0 = (Sl.v p0) ∧ ρ 1 = (Value.string p1) ∧ ρ 5 = (Value.int .i64 l9) ∧ True) ⟨e0, e1, e5, trivial⟩ ?_
    rintro ρ ⟨e0, e1, e5, -⟩
    refine wpC_region ?_
    refine wpR_val (v := (Sl.v p0)) (w' := w1) rfl rfl rfl (x_move (v := (Sl.v p0)) rfl e0) ?_
    refine wpR_val (v := (Value.int .i64 l9)) (w' := w1) rfl rfl rfl (x_move (v := (Value.int .i64 l9)) rfl e5) ?_
    obtain ⟨q11, z11, r11, h⟩ := h
    generalize hp11 : z11.add ((l9 : Int).toNat * 1) = p11 at h
    refine wpR_val (v := (Value.pointer (some p11))) (w' := w1) rfl rfl rfl ((x_indexAddr (s := p0) rfl rfl rfl ES_23 q11 r11).trans (by rw [hp11])) ?_
    obtain ⟨x12, q12, h⟩ := h
    refine wpR_val (v := (Value.string x12)) (w' := w1) rfl rfl rfl (x_load1 rfl rfl SH_9 q12) ?_
    refine wpR_val (v := (Value.string p1)) (w' := w1) rfl rfl rfl (x_move (v := (Value.string p1)) rfl e1) ?_
    refine wpR_val (v := (Value.bool (beqS x12 p1))) (w' := w1) rfl rfl rfl (x_eqlS rfl rfl rfl) ?_
    refine wpR_nil ?_
    refine wpC_cond (b := beqS x12 p1) rfl (fun hc13 => ?_) (fun hc13 => ?_)
    · replace h := h.1 hc13
      refine wpC_seq ?_
      refine wpC_cut (fun ρ => True) trivial ?_
      rintro ρ -
      refine wpC_region ?_
      refine wpR_val (v := (Value.bool true)) (w' := w1) rfl rfl rfl (x_assign (v := (Value.bool true)) rfl rfl) ?_
      refine wpR_nil ?_
      refine wpC_ret ?_
      exact ⟨.inl rfl, fun a ha => ⟨_, results_rep1 rfl ha rfl, true, rfl, h⟩⟩
    · replace h := h.2 hc13
      refine wpC_skip ?_
      refine wpC_cut (fun ρ => ρ 0 = (Sl.v p0) ∧ ρ 1 = (Value.string p1) ∧ ρ 5 = (Value.int .i64 l9) ∧ True) ⟨e0, e1, e5, trivial⟩ ?_
      rintro ρ ⟨e0, e1, e5, -⟩
      refine wpC_region ?_
      refine wpR_val (v := (Value.int .i64 l9)) (w' := w1) rfl rfl rfl (x_move (v := (Value.int .i64 l9)) rfl e5) ?_
      refine wpR_val (v := (Value.int .i64 (IntKind.i64.wrap (l9 + 1)))) (w' := w1) rfl rfl rfl (x_add rfl rfl rfl) ?_
      refine wpR_val (v := (Value.int .i64 (IntKind.i64.wrap (l9 + 1)))) (w' := w1) rfl rfl rfl (x_assign (v := (Value.int .i64 (IntKind.i64.wrap (l9 + 1)))) rfl rfl) ?_
      refine wpR_nil ?_
      exact ⟨IntKind.i64.wrap (l9 + 1), ⟨rfl, e0, e1, trivial⟩, h⟩
  · replace h := h.2 hc10
    refine wpC_exit ?_
    refine wpC_seq ?_
    refine wpC_cut (fun ρ => True) trivial ?_
    rintro ρ -
    refine wpC_region ?_
    refine wpR_val (v := (Value.bool false)) (w' := w1) rfl rfl rfl (x_assign (v := (Value.bool false)) rfl rfl) ?_
    refine wpR_nil ?_
    refine wpC_ret ?_
    exact ⟨.inl rfl, fun a ha => ⟨_, results_rep1 rfl ha rfl, false, rfl, h⟩⟩

/-- linguaref39.Ints -/
def F13 (p0 : Sl) (p1 : Sl) (w0 : World) (K : Bool → World → Prop) : Prop :=
  cnd (!decide ((p0.len : Int) = (p1.len : Int)))
    (
    K false w0
    )
    (
    lp (fun (next10 : Int → World → Prop) l10 w1 =>
      cnd (decide (l10 < (p0.len : Int)))
        (
        jn (fun (J13 : Bool → World → Prop) => tk w1 fun w2 =>
          ix p0 l10 1 fun p14 =>
          ld (Value.int .i64) p14 w2 fun x15 =>
          ix p1 l10 1 fun p16 =>
          ld (Value.int .i64) p16 w2 fun x17 =>
          J13 (!decide (x15 = x17)) w2
        )
        fun l18 w3 =>
        cnd (l18)
          (
          K false w3
          )
          (
          next10 (IntKind.i64.wrap (l10 + 1)) w3
          )
        )
        (
        K true w1
        )
    ) 0 w0
    )
set_option maxRecDepth 100000 in
theorem D13 (p0 : Sl) (p1 : Sl) (w0 : World) (K : Bool → World → Prop) (h : F13 p0 p1 w0 K) : callC Try.prog 13 #[(Sl.v p0), (Sl.v p1)] (fun (r : Bool) => (Value.bool r)) w0 K := by
  unfold F13 at h
  refine calls_of_wpC Try.func13 rfl 26 rfl (by simp) ?_
  intro ρ hρ
  have e0 : ρ 0 = (Sl.v p0) := hρ 0
  have e1 : ρ 1 = (Sl.v p1) := hρ 1
  clear hρ
  refine wpC_seq ?_
  refine wpC_region ?_
  refine wpR_val (v := (Value.bool false)) (w' := w0) rfl rfl rfl (x_assign (v := (Value.bool false)) rfl rfl) ?_
  refine wpR_nil ?_
  refine wpC_seq ?_
  refine wpC_seq ?_
  refine wpC_cut (fun ρ => ρ 0 = (Sl.v p0) ∧ ρ 1 = (Sl.v p1) ∧ True) ⟨e0, e1, trivial⟩ ?_
  rintro ρ ⟨e0, e1, -⟩
  refine wpC_region ?_
  refine wpR_val (v := (Sl.v p0)) (w' := w0) rfl rfl rfl (x_move (v := (Sl.v p0)) rfl e0) ?_
  refine wpR_val (v := (Value.int .i64 (p0.len : Int))) (w' := w0) rfl rfl rfl (x_lenS (s := p0) rfl rfl isSliceT_24) ?_
  refine wpR_val (v := (Sl.v p1)) (w' := w0) rfl rfl rfl (x_move (v := (Sl.v p1)) rfl e1) ?_
  refine wpR_val (v := (Value.int .i64 (p1.len : Int))) (w' := w0) rfl rfl rfl (x_lenS (s := p1) rfl rfl isSliceT_24) ?_
  refine wpR_val (v := (Value.bool (!decide ((p0.len : Int) = (p1.len : Int))))) (w' := w0) rfl rfl rfl (x_neq rfl rfl rfl) ?_
  refine wpR_nil ?_
  refine wpC_cond (b := !decide ((p0.len : Int) = (p1.len : Int))) rfl (fun hc9 => ?_) (fun hc9 => ?_)
  · replace h := h.1 hc9
    refine wpC_seq ?_
    refine wpC_cut (fun ρ => True) trivial ?_
    rintro ρ -
    refine wpC_region ?_
    refine wpR_val (v := (Value.bool false)) (w' := w0) rfl rfl rfl (x_assign (v := (Value.bool false)) rfl rfl) ?_
    refine wpR_nil ?_
    refine wpC_ret ?_
    exact ⟨.inl rfl, fun a ha => ⟨_, results_rep1 rfl ha rfl, false, rfl, h⟩⟩
  · replace h := h.2 hc9
    refine wpC_skip ?_
    refine wpC_seq ?_
    refine wpC_seq ?_
    refine wpC_cut (fun ρ => ρ 0 = (Sl.v p0) ∧ ρ 1 = (Sl.v p1) ∧ True) ⟨e0, e1, trivial⟩ ?_
    rintro ρ ⟨e0, e1, -⟩
    refine wpC_region ?_
    refine wpR_val (v := (Value.int .i64 0)) (w' := w0) rfl rfl rfl (x_assign (v := (Value.int .i64 0)) rfl rfl) ?_
    refine wpR_nil ?_
    refine wpC_block ?_
    obtain ⟨I10, μ10, hI10, hr10⟩ := h
    refine wpC_loop (fun (x : Int) ρ => ρ 5 = (Value.int .i64 x) ∧ ρ 0 = (Sl.v p0) ∧ ρ 1 = (Sl.v p1) ∧ True) I10 μ10 0 ⟨rfl, e0, e1, trivial⟩ hI10 ?_
    rintro l10 ρ w1 ⟨e5, e0, e1, -⟩ h
    replace h := hr10 l10 w1 h
    clear hr10 hI10
    refine wpC_seq ?_
    refine wpC_seq ?_
    refine wpC_region ?_
    refine wpR_val (v := (Value.int .i64 l10)) (w' := w1) rfl rfl rfl (x_move (v := (Value.int .i64 l10)) rfl e5) ?_
    refine wpR_val (v := (Sl.v p0)) (w' := w1) rfl rfl rfl (x_move (v := (Sl.v p0)) rfl e0) ?_
    refine wpR_val (v := (Value.int .i64 (p0.len : Int))) (w' := w1) rfl rfl rfl (x_lenS (s := p0) rfl rfl isSliceT_24) ?_
    refine wpR_val (v := (Value.bool (decide (l10 < (p0.len : Int))))) (w' := w1) rfl rfl rfl (x_lss rfl rfl rfl) ?_
    refine wpR_nil ?_
    refine wpC_cond (b := decide (l10 < (p0.len : Int))) rfl (fun hc11 => ?_) (fun hc11 => ?_)
    · replace h := h.1 hc11
      refine wpC_skip ?_
      refine wpC_seq ?_
      refine wpC_block ?_
      refine wpC_seq ?_
      refine wpC_cut (fun ρ => ρ 0 = (Sl.v p0) ∧ ρ 1 = (Sl.v p1) ∧ ρ 5 = (Value.int .i64 l10) ∧ True) ⟨e0, e1, e5, trivial⟩ ?_
      rintro ρ ⟨e0, e1, e5, -⟩
      obtain ⟨J13, h, hk⟩ := h
      refine wpC_drawJ (by kernel_rfl) (fun (x : Bool) ρ => ρ 25 = (Value.bool x) ∧ ρ 0 = (Sl.v p0) ∧ ρ 1 = (Sl.v p1) ∧ ρ 5 = (Value.int .i64 l10) ∧ True) J13 ?_ ?_
      · clear hk
        unfold tk at h
        generalize w1.drew = w2 at h ⊢
        refine wpD_take (v := (Sl.v p0)) 0 (fun _ => True) rfl (by kernel_rfl) (by kernel_rfl) (by kernel_rfl) rfl rfl rfl trivial (fun w _ => (x_move (v := (Sl.v p0)) rfl e0)) ?_
        refine wpD_take (v := (Value.int .i64 l10)) 1 (fun _ => True) rfl (by kernel_rfl) (by kernel_rfl) (by kernel_rfl) rfl rfl rfl trivial (fun w _ => (x_move (v := (Value.int .i64 l10)) rfl e5)) ?_
        obtain ⟨q14, z14, r14, h⟩ := h
        generalize hp14 : z14.add ((l10 : Int).toNat * 1) = p14 at h
        refine wpD_take (v := (Value.pointer (some p14))) 2 (fun _ => True) rfl (by kernel_rfl) (by kernel_rfl) (by kernel_rfl) rfl rfl rfl trivial (fun w _ => ((x_indexAddr (s := p0) rfl rfl rfl ES_24 q14 r14).trans (by rw [hp14]))) ?_
        obtain ⟨x15, q15, h⟩ := h
        refine wpD_take (v := (Value.int .i64 x15)) 3 (fun w => w.cell? p14 = some (Value.int .i64 x15)) rfl (by kernel_rfl) (by kernel_rfl) (by kernel_rfl) rfl rfl rfl q15 (fun w q15 => (x_load1 rfl rfl SH_3 q15)) ?_
        refine wpD_take (v := (Sl.v p1)) 4 (fun _ => True) rfl (by kernel_rfl) (by kernel_rfl) (by kernel_rfl) rfl rfl rfl trivial (fun w _ => (x_move (v := (Sl.v p1)) rfl e1)) ?_
        refine wpD_take (v := (Value.int .i64 l10)) 5 (fun _ => True) rfl (by kernel_rfl) (by kernel_rfl) (by kernel_rfl) rfl rfl rfl trivial (fun w _ => (x_move (v := (Value.int .i64 l10)) rfl e5)) ?_
        obtain ⟨q16, z16, r16, h⟩ := h
        generalize hp16 : z16.add ((l10 : Int).toNat * 1) = p16 at h
        refine wpD_take (v := (Value.pointer (some p16))) 6 (fun _ => True) rfl (by kernel_rfl) (by kernel_rfl) (by kernel_rfl) rfl rfl rfl trivial (fun w _ => ((x_indexAddr (s := p1) rfl rfl rfl ES_24 q16 r16).trans (by rw [hp16]))) ?_
        obtain ⟨x17, q17, h⟩ := h
        refine wpD_take (v := (Value.int .i64 x17)) 7 (fun w => w.cell? p16 = some (Value.int .i64 x17)) rfl (by kernel_rfl) (by kernel_rfl) (by kernel_rfl) rfl rfl rfl q17 (fun w q17 => (x_load1 rfl rfl SH_3 q17)) ?_
        refine wpD_take (v := (Value.bool (!decide (x15 = x17)))) 8 (fun _ => True) rfl (by kernel_rfl) (by kernel_rfl) (by kernel_rfl) rfl rfl rfl trivial (fun w _ => (x_neq rfl rfl rfl)) ?_
        exact wpD_done (by kernel_rfl) ⟨!decide (x15 = x17), ⟨rfl, e0, e1, e5, trivial⟩, h⟩
      clear h
      rintro l18 ρ w3 ⟨e25, e0, e1, e5, -⟩ h
      replace h := hk l18 w3 h
      clear hk
      refine wpC_cond (b := l18) e25 (fun hc19 => ?_) (fun hc19 => ?_)
      · replace h := h.1 hc19
        refine wpC_seq ?_
        refine wpC_region ?_
        refine wpR_val (v := (Value.bool false)) (w' := w3) rfl rfl rfl (x_assign (v := (Value.bool false)) rfl rfl) ?_
        refine wpR_nil ?_
        refine wpC_ret ?_
        exact ⟨.inl rfl, fun a ha => ⟨_, results_rep1 rfl ha rfl, false, rfl, h⟩⟩
      · replace h := h.2 hc19
        refine wpC_skip ?_
        refine wpC_region ?_
        refine wpR_val (v := (Value.int .i64 l10)) (w' := w3) rfl rfl rfl (x_move (v := (Value.int .i64 l10)) rfl e5) ?_
        refine wpR_val (v := (Value.int .i64 (IntKind.i64.wrap (l10 + 1)))) (w' := w3) rfl rfl rfl (x_add rfl rfl rfl) ?_
        refine wpR_val (v := (Value.int .i64 (IntKind.i64.wrap (l10 + 1)))) (w' := w3) rfl rfl rfl (x_assign (v := (Value.int .i64 (IntKind.i64.wrap (l10 + 1)))) rfl rfl) ?_
        refine wpR_nil ?_
        exact ⟨IntKind.i64.wrap (l10 + 1), ⟨rfl, e0, e1, trivial⟩, h⟩
    · replace h := h.2 hc11
      refine wpC_exit ?_
      refine wpC_seq ?_
      refine wpC_cut (fun ρ => True) trivial ?_
      rintro ρ -
      refine wpC_region ?_
      refine wpR_val (v := (Value.bool true)) (w' := w1) rfl rfl rfl (x_assign (v := (Value.bool true)) rfl rfl) ?_
      refine wpR_nil ?_
      refine wpC_ret ?_
      exact ⟨.inl rfl, fun a ha => ⟨_, results_rep1 rfl ha rfl, true, rfl, h⟩⟩

/-- linguaref13.Few -/
def F14 (p0_0 : ByteArray) (p0_1 : Int) (p0_2 : Int) (p0_3 : Int) (p0_4 : Bool) (p0_5 : Int) (p0_6 : Bool) (p0_7 : Bool) (p0_8 : Int) (p0_9 : Int) (p0_10 : Int) (p0_11 : Int) (p0_12 : Sl) (p0_13 : Int) (p0_14 : Int) (p0_15 : Int) (p0_16 : Int) (p0_17 : Bool) (p0_18 : Int) (p0_19 : Int) (p0_20 : Int) (p0_21 : Int) (w0 : World) (K : Bool → World → Prop) : Prop :=
  nw 39 (A38 p0_0 p0_1 p0_2 p0_3 p0_4 p0_5 p0_6 p0_7 p0_8 p0_9 p0_10 p0_11 p0_12 p0_13 p0_14 p0_15 p0_16 p0_17 p0_18 p0_19 p0_20 p0_21) w0 fun b9 w1 =>
  lp (fun (next10 : Int → World → Prop) l10 w2 =>
    ld Sl.v ((Addr.mk b9 0 none).add 12) w2 fun x11 =>
    cnd ((decide (l10 < (x11.len : Int))) && (decide (l10 < 13)))
      (
      ld Sl.v ((Addr.mk b9 0 none).add 12) w2 fun x15 =>
      ix x15 l10 1 fun p16 =>
      ld Value.string p16 w2 fun x17 =>
      cnd (decide (60 < (x17.size : Int)))
        (
        K false w2
        )
        (
        next10 (IntKind.i64.wrap (l10 + 1)) w2
        )
      )
      (
      ld Sl.v ((Addr.mk b9 0 none).add 12) w2 fun x19 =>
      jp (fun J20 => cnd (decide ((x19.len : Int) ≤ 12))
        (
        ld Value.string ((Addr.mk b9 0 none).add 0) w2 fun x22 =>
        J20 (decide ((x22.size : Int) ≤ 60))
        )
        (
        J20 false
        ))
      fun c23 =>
      K c23 w2
      )
  ) 0 w1
set_option maxRecDepth 100000 in
theorem D14 (p0_0 : ByteArray) (p0_1 : Int) (p0_2 : Int) (p0_3 : Int) (p0_4 : Bool) (p0_5 : Int) (p0_6 : Bool) (p0_7 : Bool) (p0_8 : Int) (p0_9 : Int) (p0_10 : Int) (p0_11 : Int) (p0_12 : Sl) (p0_13 : Int) (p0_14 : Int) (p0_15 : Int) (p0_16 : Int) (p0_17 : Bool) (p0_18 : Int) (p0_19 : Int) (p0_20 : Int) (p0_21 : Int) (w0 : World) (K : Bool → World → Prop) (h : F14 p0_0 p0_1 p0_2 p0_3 p0_4 p0_5 p0_6 p0_7 p0_8 p0_9 p0_10 p0_11 p0_12 p0_13 p0_14 p0_15 p0_16 p0_17 p0_18 p0_19 p0_20 p0_21 w0 K) : callC Try.prog 14 #[(V38 p0_0 p0_1 p0_2 p0_3 p0_4 p0_5 p0_6 p0_7 p0_8 p0_9 p0_10 p0_11 p0_12 p0_13 p0_14 p0_15 p0_16 p0_17 p0_18 p0_19 p0_20 p0_21)] (fun (r : Bool) => (Value.bool r)) w0 K := by
  unfold F14 at h
  refine calls_of_wpC Try.func14 rfl 32 rfl (by simp) ?_
  intro ρ hρ
  have e0 : ρ 0 = (V38 p0_0 p0_1 p0_2 p0_3 p0_4 p0_5 p0_6 p0_7 p0_8 p0_9 p0_10 p0_11 p0_12 p0_13 p0_14 p0_15 p0_16 p0_17 p0_18 p0_19 p0_20 p0_21) := hρ 0
  clear hρ
  refine wpC_seq ?_
  refine wpC_region ?_
  obtain ⟨b9, hb9⟩ : ∃ u, u = w0.heap.size := ⟨_, rfl⟩
  obtain ⟨w1, hw9⟩ : ∃ u, u = w0.alloc (.cells (A38 p0_0 p0_1 p0_2 p0_3 p0_4 p0_5 p0_6 p0_7 p0_8 p0_9 p0_10 p0_11 p0_12 p0_13 p0_14 p0_15 p0_16 p0_17 p0_18 p0_19 p0_20 p0_21) 39) := ⟨_, rfl⟩
  replace h := h b9 w1 hb9 hw9
  refine wpR_val (v := (Value.pointer (some (Addr.mk b9 0 none)))) (w' := w1) rfl rfl rfl ((x_box (v := (V38 p0_0 p0_1 p0_2 p0_3 p0_4 p0_5 p0_6 p0_7 p0_8 p0_9 p0_10 p0_11 p0_12 p0_13 p0_14 p0_15 p0_16 p0_17 p0_18 p0_19 p0_20 p0_21)) rfl e0).trans (by rw [hb9, hw9]; rfl)) ?_
  refine wpR_val (v := (Value.bool false)) (w' := w1) rfl rfl rfl (x_assign (v := (Value.bool false)) rfl rfl) ?_
  refine wpR_nil ?_
  refine wpC_seq ?_
  refine wpC_seq ?_
  refine wpC_cut (fun ρ => ρ 1 = (Value.pointer (some (Addr.mk b9 0 none))) ∧ True) ⟨rfl, trivial⟩ ?_
  rintro ρ ⟨e1, -⟩
  refine wpC_region ?_
  refine wpR_val (v := (Value.int .i64 0)) (w' := w1) rfl rfl rfl (x_assign (v := (Value.int .i64 0)) rfl rfl) ?_
  refine wpR_nil ?_
  refine wpC_block ?_
  obtain ⟨I10, μ10, hI10, hr10⟩ := h
  refine wpC_loop (fun (x : Int) ρ => ρ 3 = (Value.int .i64 x) ∧ ρ 1 = (Value.pointer (some (Addr.mk b9 0 none))) ∧ True) I10 μ10 0 ⟨rfl, e1, trivial⟩ hI10 ?_
  rintro l10 ρ w2 ⟨e3, e1, -⟩ h
  replace h := hr10 l10 w2 h
  clear hr10 hI10
  refine wpC_seq ?_
  refine wpC_seq ?_
  refine wpC_region ?_
  refine wpR_val (v := (Value.int .i64 l10)) (w' := w2) rfl rfl rfl (x_move (v := (Value.int .i64 l10)) rfl e3) ?_
  refine wpR_val (v := (Value.pointer (some ((Addr.mk b9 0 none).add 12)))) (w' := w2) rfl rfl rfl (x_fieldAddr rfl e1 FA_39_12) ?_
  obtain ⟨x11, q11, h⟩ := h
  refine wpR_val (v := (Sl.v x11)) (w' := w2) rfl rfl rfl (x_load1 rfl rfl SH_23 q11) ?_
  refine wpR_val (v := (Value.int .i64 (x11.len : Int))) (w' := w2) rfl rfl rfl (x_lenS (s := x11) rfl rfl isSliceT_23) ?_
  refine wpR_val (v := (Value.bool (decide (l10 < (x11.len : Int))))) (w' := w2) rfl rfl rfl (x_lss rfl rfl rfl) ?_
  refine wpR_val (v := (Value.bool (decide (l10 < (x11.len : Int))))) (w' := w2) rfl rfl rfl (x_move (v := (Value.bool (decide (l10 < (x11.len : Int))))) rfl rfl) ?_
  refine wpR_joinJ 3 (fun (_ : Unit) ρ => ρ 12 = Value.bool ((decide (l10 < (x11.len : Int))) && (decide (l10 < 13))) ∧ ρ 1 = (Value.pointer (some (Addr.mk b9 0 none))) ∧ ρ 3 = (Value.int .i64 l10) ∧ True) (fun _ w => w2 = w) ?_ ?_
  · clear h
    rcases Bool.eq_false_or_eq_true (decide (l10 < (x11.len : Int))) with hc13 | hc13
    · skip
      refine wpR_val (v := (Value.int .i64 l10)) (w' := w2) (wantG rfl rfl rfl hc13) rfl rfl (x_move (v := (Value.int .i64 l10)) rfl e3) ?_
      refine wpR_val (v := (Value.bool (decide (l10 < 13)))) (w' := w2) (wantG rfl rfl rfl hc13) rfl rfl (x_lss rfl rfl rfl) ?_
      refine wpR_val (v := (Value.bool (decide (l10 < 13)))) (w' := w2) rfl rfl rfl (x_pickT (v := (Value.bool (decide (l10 < 13)))) rfl rfl hc13 rfl) ?_
      refine wpR_nil ?_
      exact ⟨(), ⟨(by rw [hc13]; rfl), e1, e3, trivial⟩, rfl⟩
    · skip
      refine wpR_pass (wantN rfl rfl rfl hc13) rfl rfl ?_
      refine wpR_pass (wantN rfl rfl rfl hc13) rfl rfl ?_
      refine wpR_val (v := (Value.bool false)) (w' := w2) rfl rfl rfl (x_pickF (v := (Value.bool false)) rfl rfl hc13 rfl) ?_
      refine wpR_nil ?_
      exact ⟨(), ⟨(by rw [hc13]; rfl), e1, e3, trivial⟩, rfl⟩
  rintro _ ρ wj ⟨e12, e1, e3, -⟩ rfl
  refine wpR_nil ?_
  refine wpC_cond (b := (decide (l10 < (x11.len : Int))) && (decide (l10 < 13))) e12 (fun hc14 => ?_) (fun hc14 => ?_)
  · replace h := h.1 hc14
    refine wpC_skip ?_
    refine wpC_seq ?_
    refine wpC_block ?_
    refine wpC_seq ?_
    refine wpC_region ?_
    refine wpR_val (v := (Value.pointer (some ((Addr.mk b9 0 none).add 12)))) (w' := w2) rfl rfl rfl (x_fieldAddr rfl e1 FA_39_12) ?_
    obtain ⟨x15, q15, h⟩ := h
    refine wpR_val (v := (Sl.v x15)) (w' := w2) rfl rfl rfl (x_load1 rfl rfl SH_23 q15) ?_
    refine wpR_val (v := (Value.int .i64 l10)) (w' := w2) rfl rfl rfl (x_move (v := (Value.int .i64 l10)) rfl e3) ?_
    obtain ⟨q16, z16, r16, h⟩ := h
    generalize hp16 : z16.add ((l10 : Int).toNat * 1) = p16 at h
    refine wpR_val (v := (Value.pointer (some p16))) (w' := w2) rfl rfl rfl ((x_indexAddr (s := x15) rfl rfl rfl ES_23 q16 r16).trans (by rw [hp16])) ?_
    obtain ⟨x17, q17, h⟩ := h
    refine wpR_val (v := (Value.string x17)) (w' := w2) rfl rfl rfl (x_load1 rfl rfl SH_9 q17) ?_
    refine wpR_val (v := (Value.int .i64 (x17.size : Int))) (w' := w2) rfl rfl rfl (x_lenStr rfl rfl isStrT_9) ?_
    refine wpR_val (v := (Value.bool (decide (60 < (x17.size : Int))))) (w' := w2) rfl rfl rfl (x_gtr rfl rfl rfl) ?_
    refine wpR_nil ?_
    refine wpC_cond (b := decide (60 < (x17.size : Int))) rfl (fun hc18 => ?_) (fun hc18 => ?_)
    · replace h := h.1 hc18
      refine wpC_seq ?_
      refine wpC_cut (fun ρ => True) trivial ?_
      rintro ρ -
      refine wpC_region ?_
      refine wpR_val (v := (Value.bool false)) (w' := w2) rfl rfl rfl (x_assign (v := (Value.bool false)) rfl rfl) ?_
      refine wpR_nil ?_
      refine wpC_ret ?_
      exact ⟨.inl rfl, fun a ha => ⟨_, results_rep1 rfl ha rfl, false, rfl, h⟩⟩
    · replace h := h.2 hc18
      refine wpC_skip ?_
      refine wpC_cut (fun ρ => ρ 1 = (Value.pointer (some (Addr.mk b9 0 none))) ∧ ρ 3 = (Value.int .i64 l10) ∧ True) ⟨e1, e3, trivial⟩ ?_
      rintro ρ ⟨e1, e3, -⟩
      refine wpC_region ?_
      refine wpR_val (v := (Value.int .i64 l10)) (w' := w2) rfl rfl rfl (x_move (v := (Value.int .i64 l10)) rfl e3) ?_
      refine wpR_val (v := (Value.int .i64 (IntKind.i64.wrap (l10 + 1)))) (w' := w2) rfl rfl rfl (x_add rfl rfl rfl) ?_
      refine wpR_val (v := (Value.int .i64 (IntKind.i64.wrap (l10 + 1)))) (w' := w2) rfl rfl rfl (x_assign (v := (Value.int .i64 (IntKind.i64.wrap (l10 + 1)))) rfl rfl) ?_
      refine wpR_nil ?_
      exact ⟨IntKind.i64.wrap (l10 + 1), ⟨rfl, e1, trivial⟩, h⟩
  · replace h := h.2 hc14
    refine wpC_exit ?_
    refine wpC_seq ?_
    refine wpC_region ?_
    refine wpR_val (v := (Value.pointer (some ((Addr.mk b9 0 none).add 12)))) (w' := w2) rfl rfl rfl (x_fieldAddr rfl e1 FA_39_12) ?_
    obtain ⟨x19, q19, h⟩ := h
    refine wpR_val (v := (Sl.v x19)) (w' := w2) rfl rfl rfl (x_load1 rfl rfl SH_23 q19) ?_
    refine wpR_val (v := (Value.int .i64 (x19.len : Int))) (w' := w2) rfl rfl rfl (x_lenS (s := x19) rfl rfl isSliceT_23) ?_
    refine wpR_val (v := (Value.bool (decide ((x19.len : Int) ≤ 12)))) (w' := w2) rfl rfl rfl (x_leq rfl rfl rfl) ?_
    refine wpR_val (v := (Value.bool (decide ((x19.len : Int) ≤ 12)))) (w' := w2) rfl rfl rfl (x_move (v := (Value.bool (decide ((x19.len : Int) ≤ 12)))) rfl rfl) ?_
    obtain ⟨J20, h, hk⟩ := h
    refine wpR_joinJ 5 (fun x ρ => ρ 31 = Value.bool x ∧ True) (fun x w => J20 x ∧ w2 = w) ?_ ?_
    · clear hk
      rcases Bool.eq_false_or_eq_true (decide ((x19.len : Int) ≤ 12)) with hc21 | hc21
      · replace h := h.1 hc21
        refine wpR_val (v := (Value.pointer (some ((Addr.mk b9 0 none).add 0)))) (w' := w2) (wantG rfl rfl rfl hc21) rfl rfl (x_fieldAddr rfl e1 FA_39_0) ?_
        obtain ⟨x22, q22, h⟩ := h
        refine wpR_val (v := (Value.string x22)) (w' := w2) (wantG rfl rfl rfl hc21) rfl rfl (x_load1 rfl rfl SH_9 q22) ?_
        refine wpR_val (v := (Value.int .i64 (x22.size : Int))) (w' := w2) (wantG rfl rfl rfl hc21) rfl rfl (x_lenStr rfl rfl isStrT_9) ?_
        refine wpR_val (v := (Value.bool (decide ((x22.size : Int) ≤ 60)))) (w' := w2) (wantG rfl rfl rfl hc21) rfl rfl (x_leq rfl rfl rfl) ?_
        refine wpR_val (v := (Value.bool (decide ((x22.size : Int) ≤ 60)))) (w' := w2) rfl rfl rfl (x_pickT (v := (Value.bool (decide ((x22.size : Int) ≤ 60)))) rfl rfl hc21 rfl) ?_
        refine wpR_nil ?_
        exact ⟨decide ((x22.size : Int) ≤ 60), ⟨rfl, trivial⟩, h, rfl⟩
      · replace h := h.2 hc21
        refine wpR_pass (wantN rfl rfl rfl hc21) rfl rfl ?_
        refine wpR_pass (wantN rfl rfl rfl hc21) rfl rfl ?_
        refine wpR_pass (wantN rfl rfl rfl hc21) rfl rfl ?_
        refine wpR_pass (wantN rfl rfl rfl hc21) rfl rfl ?_
        refine wpR_val (v := (Value.bool false)) (w' := w2) rfl rfl rfl (x_pickF (v := (Value.bool false)) rfl rfl hc21 rfl) ?_
        refine wpR_nil ?_
        exact ⟨false, ⟨rfl, trivial⟩, h, rfl⟩
    clear h
    rintro c23 ρ wj ⟨e31, -⟩ ⟨h, rfl⟩
    replace h := hk c23 h
    clear hk
    refine wpR_val (v := (Value.bool c23)) (w' := w2) rfl rfl rfl (x_assign (v := (Value.bool c23)) rfl e31) ?_
    refine wpR_nil ?_
    refine wpC_ret ?_
    exact ⟨.inl rfl, fun a ha => ⟨_, results_rep1 rfl ha rfl, c23, rfl, h⟩⟩


end Go.Proofs.Ytkacfhhpmpmhkaa
