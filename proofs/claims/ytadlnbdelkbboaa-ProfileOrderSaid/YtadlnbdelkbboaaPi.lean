import Derived.Test.YtadlnbdelkbboaaPh
namespace Go.Proofs.Ytadlnbdelkbboaa
open Go.Dec Go.RowKit
set_option maxHeartbeats 800000
set_option maxRecDepth 10000

def png : ByteArray := ⟨#[112, 110, 103]⟩
def txt : ByteArray := ⟨#[116, 120, 116]⟩
def jpg : ByteArray := ⟨#[106, 112, 103]⟩
def oneA : Ap := { name := ⟨#[112]⟩, edit := 2, within := 5, delete := 1, react := false, thread := 1, quote := false, mention := false, size := 100, parts := 3, files := 2, bytes := 1000, types := [png, txt], join := 0, history := 0, remove := 0, level := 0, batch := false, rate := 1, down := 0, window := 1, keep := 0 }
def twoA : Ap := { name := ⟨#[113]⟩, edit := 2, within := 0, delete := 2, react := false, thread := 0, quote := false, mention := false, size := 200, parts := 1, files := 1, bytes := 500, types := [txt, jpg], join := 0, history := 0, remove := 0, level := 0, batch := false, rate := 1, down := 0, window := 1, keep := 0 }
def lessA : Ap := { name := ⟨#[112]⟩, edit := 2, within := 5, delete := 1, react := false, thread := 0, quote := false, mention := false, size := 100, parts := 1, files := 1, bytes := 500, types := [txt], join := 0, history := 0, remove := 0, level := 0, batch := false, rate := 1, down := 0, window := 1, keep := 0 }
def moreA : Ap := { name := ⟨#[112]⟩, edit := 2, within := 0, delete := 2, react := false, thread := 1, quote := false, mention := false, size := 200, parts := 3, files := 2, bytes := 1000, types := [png, txt, jpg], join := 0, history := 0, remove := 0, level := 0, batch := false, rate := 1, down := 0, window := 1, keep := 0 }
theorem strs {w : World} {b n : Nat} {l : List ByteArray} {cs : Array Value} (h : Blk w b 9 cs) (hn : cs.size = n) (hc : cs.toList = l.flatMap cb) (hl : n ≤ 100) : Rd w cb 1 (⟨some ⟨b, 0, none⟩, n, n⟩ : Sl) l := by
  have := own_row (n := n) (sz := 1) h (by omega) (by unfold maxLen; omega)
  rw [hc] at this
  exact this.rd cb1 (by decide)
theorem one_c (w : World) : callC Try.prog 21 #[] (fun (r : ByteArray × Int × Int × Int × Bool × Int × Bool × Bool × Int × Int × Int × Int × Sl × Int × Int × Int × Int × Bool × Int × Int × Int × Int) => (Value.agg #[(Value.string r.1), (Value.int .i64 r.2.1), (Value.int .i64 r.2.2.1), (Value.int .i64 r.2.2.2.1), (Value.bool r.2.2.2.2.1), (Value.int .i64 r.2.2.2.2.2.1), (Value.bool r.2.2.2.2.2.2.1), (Value.bool r.2.2.2.2.2.2.2.1), (Value.int .i64 r.2.2.2.2.2.2.2.2.1), (Value.int .i64 r.2.2.2.2.2.2.2.2.2.1), (Value.int .i64 r.2.2.2.2.2.2.2.2.2.2.1), (Value.int .i64 r.2.2.2.2.2.2.2.2.2.2.2.1), (Sl.v r.2.2.2.2.2.2.2.2.2.2.2.2.1), (Value.int .i64 r.2.2.2.2.2.2.2.2.2.2.2.2.2.1), (Value.int .i64 r.2.2.2.2.2.2.2.2.2.2.2.2.2.2.1), (Value.int .i64 r.2.2.2.2.2.2.2.2.2.2.2.2.2.2.2.1), (Value.int .i64 r.2.2.2.2.2.2.2.2.2.2.2.2.2.2.2.2.1), (Value.bool r.2.2.2.2.2.2.2.2.2.2.2.2.2.2.2.2.2.1), (Value.int .i64 r.2.2.2.2.2.2.2.2.2.2.2.2.2.2.2.2.2.2.1), (Value.int .i64 r.2.2.2.2.2.2.2.2.2.2.2.2.2.2.2.2.2.2.2.1), (Value.int .i64 r.2.2.2.2.2.2.2.2.2.2.2.2.2.2.2.2.2.2.2.2.1), (Value.int .i64 r.2.2.2.2.2.2.2.2.2.2.2.2.2.2.2.2.2.2.2.2.2)])) w fun r w' => ∃ s, r = pft (pfOf oneA s) ∧ Rd w' cb 1 s oneA.types ∧ s.len ≤ s.cap ∧ Quiet w w' := by
  refine D21 w _ ?_
  unfold F21
  refine nwL fun b1 w1 hb1 q1 g1 _ l1 => nwL fun b2 w2 hb2 q2 g2 _ _ => ?_
  refine pf_st (x := pfOf oneA ⟨some ⟨b2, 0, none⟩, 2, 2⟩) (hb1.keepQ q2) rfl fun w3 h3 on3 _ => pf_ld h3.at ⟨_, rfl, ?_, Nat.le_refl _, (q1.tr q2).new on3 fun x hx => by omega⟩
  exact strs (hb2.keep on3 (by omega)) rfl rfl (by decide)
theorem two_c (w : World) : callC Try.prog 22 #[] (fun (r : ByteArray × Int × Int × Int × Bool × Int × Bool × Bool × Int × Int × Int × Int × Sl × Int × Int × Int × Int × Bool × Int × Int × Int × Int) => (Value.agg #[(Value.string r.1), (Value.int .i64 r.2.1), (Value.int .i64 r.2.2.1), (Value.int .i64 r.2.2.2.1), (Value.bool r.2.2.2.2.1), (Value.int .i64 r.2.2.2.2.2.1), (Value.bool r.2.2.2.2.2.2.1), (Value.bool r.2.2.2.2.2.2.2.1), (Value.int .i64 r.2.2.2.2.2.2.2.2.1), (Value.int .i64 r.2.2.2.2.2.2.2.2.2.1), (Value.int .i64 r.2.2.2.2.2.2.2.2.2.2.1), (Value.int .i64 r.2.2.2.2.2.2.2.2.2.2.2.1), (Sl.v r.2.2.2.2.2.2.2.2.2.2.2.2.1), (Value.int .i64 r.2.2.2.2.2.2.2.2.2.2.2.2.2.1), (Value.int .i64 r.2.2.2.2.2.2.2.2.2.2.2.2.2.2.1), (Value.int .i64 r.2.2.2.2.2.2.2.2.2.2.2.2.2.2.2.1), (Value.int .i64 r.2.2.2.2.2.2.2.2.2.2.2.2.2.2.2.2.1), (Value.bool r.2.2.2.2.2.2.2.2.2.2.2.2.2.2.2.2.2.1), (Value.int .i64 r.2.2.2.2.2.2.2.2.2.2.2.2.2.2.2.2.2.2.1), (Value.int .i64 r.2.2.2.2.2.2.2.2.2.2.2.2.2.2.2.2.2.2.2.1), (Value.int .i64 r.2.2.2.2.2.2.2.2.2.2.2.2.2.2.2.2.2.2.2.2.1), (Value.int .i64 r.2.2.2.2.2.2.2.2.2.2.2.2.2.2.2.2.2.2.2.2.2)])) w fun r w' => ∃ s, r = pft (pfOf twoA s) ∧ Rd w' cb 1 s twoA.types ∧ s.len ≤ s.cap ∧ Quiet w w' := by
  refine D22 w _ ?_
  unfold F22
  refine nwL fun b1 w1 hb1 q1 g1 _ l1 => nwL fun b2 w2 hb2 q2 g2 _ _ => ?_
  refine pf_st (x := pfOf twoA ⟨some ⟨b2, 0, none⟩, 2, 2⟩) (hb1.keepQ q2) rfl fun w3 h3 on3 _ => pf_ld h3.at ⟨_, rfl, ?_, Nat.le_refl _, (q1.tr q2).new on3 fun x hx => by omega⟩
  exact strs (hb2.keep on3 (by omega)) rfl rfl (by decide)
theorem small_c (w : World) : callC Try.prog 8 #[] (fun (r : Bool) => .bool r) w fun r w' => r = true ∧ Quiet w w' := by
  refine D8 w _ ?_
  unfold F8
  refine (one_c w).use ?_
  rintro r1 w1 ⟨s1, rfl, hs1, hc1, q1⟩
  refine pf_box (x := pfOf oneA s1) fun b2 w3 hb2 q3 _ _ => ?_
  refine (two_c w3).use ?_
  rintro r4 w4 ⟨s4, rfl, hs4, hc4, q4⟩
  refine pf_box (x := pfOf twoA s4) fun b5 w6 hb5 q6 _ _ => nwL fun b7 w7 hb7 q7 _ _ _ => ?_
  have hs7 : Rd w7 cb 1 (⟨some ⟨b7, 0, none⟩, 1, 1⟩ : Sl) lessA.types := strs hb7 rfl rfl (by decide)
  refine pf_box (x := pfOf lessA ⟨some ⟨b7, 0, none⟩, 1, 1⟩) fun b8 w9 hb8 q9 _ _ => nwL fun b10 w10 hb10 q10 _ _ _ => ?_
  have hs10 : Rd w10 cb 1 (⟨some ⟨b10, 0, none⟩, 3, 3⟩ : Sl) moreA.types := strs hb10 rfl rfl (by decide)
  refine pf_box (x := pfOf moreA ⟨some ⟨b10, 0, none⟩, 3, 3⟩) fun b11 w12 hb11 q12 _ _ => ?_
  refine (one_c w12).use ?_
  rintro r13 w13 ⟨s13, rfl, hs13, hc13, q13⟩
  refine pf_box (x := pfOf oneA s13) fun b14 w15 hb14 q15 g14 l14 => ?_
  have M14 := OBPf.start hb14 q15 g14 l14
  refine M14.st_size fun w16 M14 on16 => ?_
  refine (one_c w16).use ?_
  rintro r17 w17 ⟨s17, rfl, hs17, hc17, q17⟩
  refine pf_box (x := pfOf oneA s17) fun b18 w19 hb18 q19 g18 l18 => ?_
  have M18 := OBPf.start hb18 q19 g18 l18
  refine M18.st_down fun w20 M18 on20 => M18.st_window fun w21 M18 on21 => ?_
  -- everything, as it stands here
  have z : Quiet w17 w21 := M18.q
  have z16 : Quiet w13 w16 := M14.q
  have zz := (z16.tr q17).tr z
  have z12 := q13.tr zz
  have z10 := q12.tr z12
  have z7 := (q9.tr q10).tr z10
  have z6 := q7.tr z7
  have z4 := q6.tr z6
  have z3 := q4.tr z4
  have z1 := q3.tr z3
  have B2 := hb2.keepQ z3
  have B5 := hb5.keepQ z6
  have B8 := hb8.keepQ (q10.tr z10)
  have B11 := hb11.keepQ z12
  have B14 : IsPf w21 b14 (pfOf { oneA with size := 39 } s13) := M14.h.keepQ (q17.tr z)
  have B18 : IsPf w21 b18 (pfOf { oneA with down := 5, window := 5 } s17) := M18.h
  have S1 := hs1.keepQ z1
  have S4 := hs4.keepQ z4
  have S7 := hs7.keepQ z7
  have S10 := hs10.keepQ z10
  have S13 := hs13.keepQ zz
  have S17 := hs17.keepQ z
  have q021 := q1.tr z1
  clear hb2 hb5 hb8 hb11 hb14 hb18 hs1 hs4 hs7 hs10 hs13 hs17 M14 M18
  have h2 : ∀ w', Quiet w21 w' → AtC w' (Addr.mk b2 0 none) (pf (pfOf oneA s1)) := fun w' q => (B2.keepQ q).at
  have h5 : ∀ w', Quiet w21 w' → AtC w' (Addr.mk b5 0 none) (pf (pfOf twoA s4)) := fun w' q => (B5.keepQ q).at
  have h8 : ∀ w', Quiet w21 w' → AtC w' (Addr.mk b8 0 none) (pf (pfOf lessA ⟨some ⟨b7, 0, none⟩, 1, 1⟩)) := fun w' q => (B8.keepQ q).at
  have h11 : ∀ w', Quiet w21 w' → AtC w' (Addr.mk b11 0 none) (pf (pfOf moreA ⟨some ⟨b10, 0, none⟩, 3, 3⟩)) := fun w' q => (B11.keepQ q).at
  have h14 : ∀ w', Quiet w21 w' → AtC w' (Addr.mk b14 0 none) (pf (pfOf { oneA with size := 39 } s13)) := fun w' q => (B14.keepQ q).at
  have h18 : ∀ w', Quiet w21 w' → AtC w' (Addr.mk b18 0 none) (pf (pfOf { oneA with down := 5, window := 5 } s17)) := fun w' q => (B18.keepQ q).at
  refine jn.mk (fun r w' => r = true ∧ Quiet w21 w') ?_ ?_
  · show tk w21 _
    unfold tk
    have q : Quiet w21 w21.drew := Only.drew _ _
    repeat (first | refine pf_ld (h2 _ q) ?_ | refine pf_ld (h5 _ q) ?_)
    refine (atMost_c _ oneA twoA s1 s4 (S1.keepQ q) (S4.keepQ q) (by decide) (by decide)).use ?_
    rintro r68 w23 ⟨rfl, q23⟩
    replace q := q.tr q23
    refine ⟨fun _ => ?_, fun g => absurd g (by decide +kernel)⟩
    repeat (first | refine pf_ld (h2 _ q) ?_ | refine pf_ld (h5 _ q) ?_ | refine pf_ld (h8 _ q) ?_ | refine pf_ld (h11 _ q) ?_)
    refine (meet_c _ oneA twoA s1 s4 (S1.keepQ q) (S4.keepQ q) (by decide) (by decide)).use ?_
    rintro r136 w24 ⟨_, rfl, s24, F24, rfl, o24, f24⟩
    replace q := q.tr f24.q
    repeat (refine ⟨by first | exact pf_cj (h2 _ q) | exact pf_cj (h5 _ q) | exact pf_cj (h8 _ q) | exact pf_cj (h11 _ q), ?_⟩)
    refine (same_c _ _ lessA s24 _ (o24.rd cb1 (by decide)) (S7.keepQ q) (by decide +kernel)).use ?_
    rintro r137 w25 ⟨rfl, q25⟩
    replace q := q.tr q25
    refine ⟨fun _ => ?_, fun g => absurd g (by decide +kernel)⟩
    repeat (first | refine pf_ld (h2 _ q) ?_ | refine pf_ld (h5 _ q) ?_ | refine pf_ld (h8 _ q) ?_ | refine pf_ld (h11 _ q) ?_)
    refine (join_c _ oneA twoA s1 s4 (S1.keepQ q) (S4.keepQ q) (by decide) (by decide)).use ?_
    rintro r205 w26 ⟨_, rfl, s26, F26, rfl, o26, f26⟩
    replace q := q.tr f26.q
    repeat (refine ⟨by first | exact pf_cj (h2 _ q) | exact pf_cj (h5 _ q) | exact pf_cj (h8 _ q) | exact pf_cj (h11 _ q), ?_⟩)
    refine (same_c _ _ moreA s26 _ (o26.rd cb1 (by decide)) (S10.keepQ q) (by decide +kernel)).use ?_
    rintro r206 w27 ⟨rfl, q27⟩
    exact ⟨by decide +kernel, q.tr q27⟩
  rintro l207 w28 ⟨rfl, q⟩
  refine jn_t (W := w21) rfl (pf_ld (h2 _ q) ((check_c _ oneA s1 (S1.keepQ q) hc1).use ?_)) fun w30 q30 => ?_
  · rintro r w' ⟨rfl, q'⟩
    exact ⟨by decide +kernel, q.tr q'⟩
  clear q
  have q := q30
  refine jn_t (W := w21) rfl (pf_ld (h5 _ q) ((check_c _ twoA s4 (S4.keepQ q) hc4).use ?_)) fun w32 q32 => ?_
  · rintro r w' ⟨rfl, q'⟩
    exact ⟨by decide +kernel, q.tr q'⟩
  clear q
  have q := q32
  refine jn_t (W := w21) rfl (pf_ld (h14 _ q) ((check_c _ { oneA with size := 39 } s13 (S13.keepQ q) hc13).use ?_)) fun w34 q34 => ?_
  · rintro r w' ⟨rfl, q'⟩
    exact ⟨by decide +kernel, q.tr q'⟩
  clear q
  have q := q34
  refine jn_t (W := w21) rfl (pf_ld (h18 _ q) ((check_c _ { oneA with down := 5, window := 5 } s17 (S17.keepQ q) hc17).use ?_)) fun w36 q36 => ?_
  · rintro r w' ⟨rfl, q'⟩
    exact ⟨by decide +kernel, q.tr q'⟩
  clear q
  have q := q36
  refine jn_t (W := w21) rfl (pf_ld (h8 _ q) (pf_ld (h2 _ q) ((atMost_c _ lessA oneA _ s1 (S7.keepQ q) (S1.keepQ q) (by decide) (by decide)).use ?_))) fun w38 q38 => ?_
  · rintro r w' ⟨rfl, q'⟩
    exact ⟨by decide +kernel, q.tr q'⟩
  clear q
  have q := q38
  refine jn_t (W := w21) rfl (pf_ld (h5 _ q) (pf_ld (h11 _ q) ((atMost_c _ twoA moreA s4 _ (S4.keepQ q) (S10.keepQ q) (by decide) (by decide)).use ?_))) fun w40 q40 => ?_
  · rintro r w' ⟨rfl, q'⟩
    exact ⟨by decide +kernel, q.tr q'⟩
  clear q
  have q := q40
  exact ⟨rfl, q021.tr q⟩
end Go.Proofs.Ytadlnbdelkbboaa
