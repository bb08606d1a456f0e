import Derived.Test.YtgbhghoppjfofaaGreatLo
import Derived.Test.YtgbhghoppjfofaaGreatAl
namespace Go.Proofs.YtgbhghoppjfofaaGreat
open Go.Dec Go.RowKit Go.Top
set_option maxHeartbeats 1000000
set_option maxRecDepth 10000

/-! ### what was seen: all numbers below one -/
def pr2 (x : Int × Int) : List Value := [.int .i64 x.1, .int .i64 x.2]
theorem pr2_len (x : Int × Int) : (pr2 x).length = 2 := rfl
theorem pr2_one (x : Int × Int) : (pr2 x).all Value.oneCell' = true := rfl
theorem ap2 : appOK Tryz.prog 36 83 2 16 = true := by kernel_rfl
theorem u2I : Tryz.prog.underlying 83 = some (.array 2 3) := by kernel_rfl
theorem sz2 : ∃ inf, Tryz.prog.info? 3 = some inf ∧ inf.size = 1 := by
  obtain ⟨i, z, _, h, _, hs, _⟩ := appOK.out apI
  exact ⟨i, h, hs⟩
theorem rd0 {w : World} {s : Sl} (h : s.len = 0) : Rd w pr2 2 s [] := ⟨by simpa using h, fun i x hx => by simp at hx⟩
def liv (low : Int) (s : Sl) : Value := .agg #[.int .i64 low, s.v]
theorem oright_c (w : World) (low : Int) (s : Sl) (h : s.len = 0) (h0 : 0 ≤ low) (h1 : low ≤ 1099511627776) : callC Tryz.prog 28 #[liv low s] (fun (r : Bool) => .bool r) w fun r w' => r = true ∧ Quiet w w' := by
  refine D28 _ _ w _ ?_
  unfold F28
  refine nwL fun b9 w1 hb q _ _ _ => ?_
  refine Blk.ld (i := 0) (o := 0) hb rfl (Blk.ld (i := 1) (o := 0) hb rfl ?_)
  refine ⟨fun c w' => c = (low, 0) ∧ w' = w1, fun _ _ => 0, ⟨rfl, rfl⟩, ?_⟩
  rintro _ w2 ⟨rfl, rfl⟩
  refine ⟨fun g => ?_, fun _ => Blk.ld (i := 0) (o := 0) hb rfl (jp_and (v := decide (low ≤ 1099511627776)) (fun _ J hJ => Blk.ld (i := 0) (o := 0) hb rfl hJ) ⟨?_, q⟩)⟩
  · have := of_decide_eq_true g
    dsimp only at this
    omega
  · rw [decide_eq_true h0, decide_eq_true h1]
    rfl
theorem oat_c (w : World) (low n : Int) (s : Sl) (h : s.len = 0) : callC Tryz.prog 30 #[liv low s, .int .i64 n] (fun (r : Int) => .int .i64 r) w fun r w' => r = 0 ∧ Quiet w w' := by
  refine D30 _ _ _ w _ ?_
  unfold F30
  refine nwL fun b9 w1 hb q _ _ _ => nwL fun b10 w2 hb2 q2 _ _ _ => ?_
  refine Blk.ld (i := 1) (o := 0) (x := s) (hb.keepQ q2) rfl ?_
  rw [h]
  refine callC.use (R := fun r w' => r = 0 ∧ w' = w2) (D54 _ _ w2 _ ?_) fun r w' h => ⟨h.1, by rw [h.2]; exact q.tr q2⟩
  unfold F54
  refine ⟨fun c w' => c = (0, 0) ∧ w' = w2, fun _ _ => 0, ⟨rfl, rfl⟩, ?_⟩
  rintro _ w3 ⟨rfl, rfl⟩
  exact ⟨fun g => absurd (of_decide_eq_true g) (by dsimp only; omega), fun _ => ⟨rfl, rfl⟩⟩
theorem ohas_c (w : World) (low n : Int) (s : Sl) (h : s.len = 0) (h0 : 0 ≤ low) (h1 : low ≤ 1099511627776) : callC Tryz.prog 29 #[liv low s, .int .i64 n] (fun (r : Bool) => .bool r) w fun r w' => r = decide (n < low) ∧ Quiet w w' := by
  refine D29 _ _ _ w _ ?_
  unfold F29
  refine nwL fun b9 w1 hb q _ _ _ => ?_
  have hB : ∀ w', Quiet w1 w' → Blk w' b9 38 #[.int .i64 low, s.v] := fun w' q => hb.keepQ q
  refine Blk.ld (i := 0) (o := 0) hb rfl (Blk.ld (i := 1) (o := 0) hb rfl ((oright_c w1 low s h h0 h1).use ?_))
  rintro r w2 ⟨rfl, q2⟩
  refine ⟨fun e => (by cases e), fun _ => Blk.ld (i := 0) (o := 0) (hB _ q2) rfl (Blk.ld (i := 1) (o := 0) (x := s) (hB _ q2) rfl ((oat_c w2 low n s h).use ?_))⟩
  rintro r w3 ⟨rfl, q3⟩
  have q13 := q2.tr q3
  refine Blk.ld (i := 0) (o := 0) (x := low) (hB _ q13) rfl (jn.mk (fun c w' => c = decide (n < low) ∧ Quiet w1 w') ⟨fun g => ⟨g.symm, q13⟩, fun g => ?_⟩ ?_)
  · refine Blk.ld (i := 1) (o := 0) (x := s) (hB _ q13) rfl (jn.mk (fun c w' => c = false ∧ Quiet w1 w') ⟨fun e => ?_, fun _ => ⟨rfl, q13⟩⟩ ?_)
    · have := of_decide_eq_true e
      omega
    · rintro c w5 ⟨rfl, q5⟩
      exact ⟨g.symm, q5⟩
  · rintro c w6 ⟨rfl, q6⟩
    exact ⟨rfl, q.tr q6⟩
theorem ofloor_c (w : World) (low : Int) (s : Sl) (h : s.len = 0) (h0 : 0 ≤ low) (h1 : low ≤ 1099511627776) : callC Tryz.prog 11 #[liv low s] (fun (r : Int) => .int .i64 r) w fun r w' => r = low ∧ Quiet w w' := by
  refine D11 _ _ w _ ?_
  unfold F11
  refine nwL fun b9 w1 hb q _ _ _ => Blk.ld (i := 0) (o := 0) hb rfl (Blk.ld (i := 1) (o := 0) hb rfl ((oright_c w1 low s h h0 h1).use ?_))
  rintro r w2 ⟨rfl, q2⟩
  exact ⟨fun e => (by cases e), fun _ => Blk.ld (i := 0) (o := 0) (hb.keepQ q2) rfl ⟨rfl, q.tr q2⟩⟩
theorem oclone_c (w : World) (s : Sl) (h : s.len = 0) : callC Tryz.prog 27 #[s.v] Sl.v w fun r w' => ∃ F, OwnF w' F 83 2 r [] ∧ Fresh w w' F := by
  refine D27 _ w _ ?_
  unfold F27
  refine ⟨fun g => ⟨_, OwnF.nil _ _ _ _, Fresh.none w⟩, fun g => ?_⟩
  exact rn_copy ap2 (rd0 h) pr2_len (by decide) pr2_one (by unfold maxLen; simp) (by simp) fun r w' F o _ f => ⟨F, o, f⟩
theorem insert_c (w : World) (F : Nat → Prop) (s : Sl) (b : Nat) (x : Int × Int) (h : OwnF w F 83 2 s []) (hb : Blk w b 83 #[.int .i64 x.1, .int .i64 x.2]) :
    callC Tryz.prog 32 #[s.v, .int .i64 0, Sl.v (⟨some ⟨b, 0, none⟩, 1, 1⟩ : Sl)] Sl.v w fun r w' => ∃ F', OwnF w' F' 83 2 r ([x].flatMap pr2) ∧ Stp F w F' w' := by
  have h0 : s.len = 0 := by have := h.own.len; rw [List.length_nil] at this; omega
  refine D32 _ _ _ w _ ?_
  unfold F32
  refine rn_from ap2 (rd0 h0) h.cap (Int.le_refl _) (by simp) fun _ _ _ _ => ⟨fun e => absurd (of_decide_eq_true e) (show ¬ ((1 : Nat) : Int) = 0 by decide), fun _ => ⟨fun _ => ?_, fun e => absurd (of_decide_eq_false e) (by rw [h0]; decide)⟩⟩
  have hrow : Rd w pr2 2 (⟨some ⟨b, 0, none⟩, 1, 1⟩ : Sl) [x] := by
    refine ⟨rfl, fun i u hu => ⟨_, rfl, fun j v hv => ?_⟩⟩
    rw [mk_add, mk_add, hb.cell]
    have := flat_at pr2_len hu hv
    simpa [pr2] using this
  exact OwnF.app ap2 h hrow pr2_len (by decide) pr2_one (by rw [h0]; simp [maxLen]) (by rw [h0]; simp) fun r w' F' o _ st => ⟨F', by simpa using o, st⟩
/-- the number that comes next is new -/
theorem otake_c (w : World) (low most : Int) (s : Sl) (h : s.len = 0) (h0 : 0 ≤ low) (h1 : low < 1099511627776) (hm : 0 ≤ most) : callC Tryz.prog 10 #[liv low s, .int .i64 low, .int .i64 most] (fun (r : Int × Sl × Bool) => .tuple #[.agg #[.int .i64 r.1, r.2.1.v], .bool r.2.2]) w fun r w' =>
    r.1 = low + 1 ∧ r.2.1.len = 0 ∧ r.2.2 = true ∧ Quiet w w' := by
  refine D10 _ _ _ _ w _ ?_
  unfold F10
  refine nwL fun b9 w1 hb9 q1 _ _ _ => nwL fun b10 w2 hb10 q2 g10 _ l10 => ?_
  have hB : ∀ w', Quiet w2 w' → Blk w' b9 38 #[.int .i64 low, s.v] := fun w' q => hb9.keepQ (q2.tr q)
  refine jn.mk (fun l w' => ∃ b F s', l = some ⟨b, 0, none⟩ ∧ Blk w' b 38 #[.int .i64 low, Sl.v s'] ∧ OwnF w' F 83 2 s' [] ∧ Objs w2 w' (two F fun x => x = b)) ?_ ?_
  · show Go.Dec.tk _ _
    unfold Go.Dec.tk
    have qd : Quiet w2 w2.drew := Only.drew _ _
    refine Blk.ld (i := 0) (o := 0) (hB _ qd) rfl (Blk.ld (i := 1) (o := 0) (x := s) (hB _ qd) rfl ⟨?_, ?_⟩)
    · refine (oclone_c _ s h).use ?_
      rintro r w4 ⟨F, o, f⟩
      have f2 : Fresh w2 w4 F := f.after qd
      refine ⟨Blk.ld0' (hB _ f2.q) rfl, nwL fun b16 w5 hb16 q5 g16 s16 l16 => ⟨Blk.ld0' (hB _ (f2.q.tr q5)) rfl, ?_⟩⟩
      refine hb16.st0 (Nat.le_refl 2) fun w6 hb6 on6 s6 => ⟨b16, F, r, rfl, by simpa [splice] using hb6, (o.keepQ q5).keep on6 fun x e e' => ?_, ?_⟩
      · have := (f2.b x e).2
        omega
      · have fb : Fresh w4 w6 (fun x => x = b16) := ⟨q5.new on6 fun x e => by omega, fun x e => by omega⟩
        exact ((Objs.start w2).none2.n0 f2).n1 fb
    · refine nwL fun b18 w7 hb18 q7 g18 s18 l18 => ⟨Blk.ld0' (hB _ (qd.tr q7)) rfl, Blk.ld0' (hB _ (qd.tr q7)) rfl, (oclone_c w7 s h).use ?_⟩
      rintro r w8 ⟨F, o, f⟩
      refine ⟨Blk.ld0' (hB _ ((qd.tr q7).tr f.q)) rfl, ?_⟩
      refine (hb18.keepQ f.q).st0 (Nat.le_refl 2) fun w9 hb9' on9 s9 => ⟨b18, F, r, rfl, by simpa [splice] using hb9', o.keep on9 fun x e e' => ?_, ?_⟩
      · have := (f.b x e).1
        omega
      · have hd : w2.heap.size ≤ w7.heap.size := (qd.tr q7).size
        have hs8 := f.q.size
        have fb : Fresh w2 w7 (fun x => x = b18) := ⟨qd.tr q7, fun x e => by have : w2.drew.heap.size = w2.heap.size := rfl; omega⟩
        have O7 : Objs w2 w7 (two (fun _ => False) fun x => x = b18) := (Objs.start w2).none2.n1 fb
        have O8 : Objs w2 w8 (two F fun x => x = b18) := O7.n0 f
        exact O8.s1 ⟨on9, fun x e => .inl e⟩
  rintro l21 w10 ⟨b, F, s', rfl, hb, o, O⟩
  have q10 : Quiet w2 w10 := Quiet.ofBelow O.bl
  have hs' : s'.len = 0 := by have := o.own.len; rw [List.length_nil] at this; omega
  refine Blk.ld (i := 0) (o := 0) (hB _ q10) rfl (Blk.ld (i := 1) (o := 0) (x := s) (hB _ q10) rfl ((oright_c w10 low s h h0 (by omega)).use ?_))
  rintro r w11 ⟨rfl, q11⟩
  rw [decide_eq_false (show ¬ low < 0 by omega), decide_eq_false (show ¬ 1099511627776 ≤ low by omega), decide_eq_false (show ¬ most < 0 by omega)]
  refine jn.mk (fun c w' => c = false ∧ Quiet w10 w') ⟨fun e => (by cases e), fun _ => Blk.ld (i := 0) (o := 0) (hB _ (q10.tr q11)) rfl (Blk.ld (i := 1) (o := 0) (x := s) (hB _ (q10.tr q11)) rfl ((ohas_c w11 low low s h h0 (by omega)).use ?_))⟩ ?_
  · rintro r w12 ⟨rfl, q12⟩
    exact ⟨decide_eq_false (Int.lt_irrefl _), q11.tr q12⟩
  rintro c w13 ⟨rfl, q13⟩
  refine ⟨fun e => (by cases e), fun _ => ?_⟩
  have q213 := q10.tr q13
  refine Blk.ld (i := 0) (o := 0) (hB _ q213) rfl (Blk.ld (i := 1) (o := 0) (x := s) (hB _ q213) rfl ((oat_c w13 low low s h).use ?_))
  rintro r w15 ⟨rfl, q15⟩
  have q1015 := q13.tr q15
  refine jn.mk (fun c w' => c = false ∧ w' = w15) ⟨fun e => (by cases e), fun _ => ⟨rfl, rfl⟩⟩ ?_
  rintro c w17 ⟨rfl, rfl⟩
  have hb17 := hb.keepQ q1015
  refine nn_ (Blk.ld (i := 1) (o := 0) (x := s') hb17 rfl (jn.mk (fun c w' => c = false ∧ w' = w17) ⟨fun e => ?_, fun _ => ⟨rfl, rfl⟩⟩ ?_))
  · have := of_decide_eq_true e
    omega
  rintro c w19 ⟨rfl, rfl⟩
  have O19 := O.quiet q1015
  have o19 := o.keepQ q1015
  refine jn.mk (fun _ w' => ∃ F r, Blk w' b 38 #[.int .i64 low, Sl.v r] ∧ OwnF w' F 83 2 r ([(low, low + 1)].flatMap pr2) ∧ Objs w2 w' (two F fun x => x = b)) ⟨fun e => (by cases e), fun _ => ⟨fun e => (by cases e), fun _ => ⟨fun e => (by cases e), fun _ => ?_⟩⟩⟩ ?_
  · refine nn_ (Blk.ld (i := 1) (o := 0) (x := s') hb17 rfl (nwL fun b102 w32 hb102 q32 _ _ _ => ?_))
    rw [w64 (by omega) (by omega)] at hb102
    refine (insert_c w32 F s' b102 (low, low + 1) (o19.keepQ q32) hb102).use ?_
    rintro r103 w33 ⟨F', o33, st33⟩
    have O32 := O19.quiet q32
    have hb33 := (hb17.keepQ q32).keep st33.only (O32.d10 b rfl)
    have O33 := O32.s0 st33
    refine nn_ (Blk.st (i := 1) (o := 0) hb33 (show 0 + 1 + 1 ≤ 2 by decide) fun w34 hb34 on34 _ => ⟨F', r103, by simpa [splice] using hb34, o33.keep on34 O33.d01, O33.s1 ⟨on34, fun x e => .inl e⟩⟩)
  rintro _ w20 ⟨F2, r103, hb20, o20, O20⟩
  refine lp_ghost (γ := Bool) (fun g _ w' => if g then (∃ F, Blk w' b 38 #[.int .i64 low, Sl.v r103] ∧ OwnF w' F 83 2 r103 ([(low, low + 1)].flatMap pr2) ∧ Objs w2 w' (two F fun x => x = b)) else (∃ F s2, s2.len = 0 ∧ Blk w' b 38 #[.int .i64 (low + 1), Sl.v s2] ∧ Objs w2 w' (two F fun x => x = b)))
    (fun g => if g then 1 else 0) true ⟨F2, hb20, o20, O20⟩ ?_
  rintro N g _ w35 hI hN
  cases g with
  | true =>
    obtain ⟨F3, hb35, o35, O35⟩ := hI
    have hl : r103.len = 1 := by
      have := o35.own.len
      simp [pr2] at this
      omega
    have hR := o35.rd pr2_len (by decide)
    refine jn.mk (fun c w' => c = true ∧ Quiet w35 w') ?_ ?_
    · show Go.Dec.tk _ _
      unfold Go.Dec.tk
      have qd : Quiet w35 w35.drew := Only.drew _ _
      have hbd := hb35.keepQ qd
      refine nn_ (Blk.ld (i := 1) (o := 0) (x := r103) hbd rfl ⟨fun _ => nn_ (Blk.ld (i := 1) (o := 0) (x := r103) hbd rfl ((hR.keepQ qd).ixx (Int.le_refl _) (x := (low, low + 1)) rfl fun p hat _ => nn_ (Blk.ld (i := 0) (o := 0) (x := low) hbd rfl (rn_arr u2I sz2 (by decide) (by decide) ⟨Blk.ld0' hbd rfl, Blk.ld0' hbd rfl, Blk.ld0' hbd rfl, hat.ld (j := 0) rfl ⟨fun _ => ⟨rfl, qd⟩, fun e => ?_⟩⟩)))), fun e => ?_⟩)
      · exact absurd rfl (of_decide_eq_false e)
      · have := of_decide_eq_false e
        omega
    rintro c w38 ⟨rfl, q38⟩
    refine ⟨fun _ => ?_, fun e => (by cases e)⟩
    have hb38 := hb35.keepQ q38
    have O38 := O35.quiet q38
    refine nn_ (Blk.ld (i := 1) (o := 0) (x := r103) hb38 rfl ((hR.keepQ q38).ixx (Int.le_refl _) (x := (low, low + 1)) rfl fun p hat _ => rn_arr u2I sz2 (by decide) (by decide) (hat.ld (j := 1) rfl (nn_ (Blk.st (i := 0) (o := 0) hb38 (show 0 + 0 + 1 ≤ 2 by decide) fun w40 hb40 on40 _ => ?_)))))
    have hb40 : Blk w40 b 38 #[.int .i64 (low + 1), Sl.v r103] := by simpa [splice] using hb40
    have O40 := O38.s1 ⟨on40, fun x e => .inl e⟩
    refine nn_ (Blk.ld (i := 1) (o := 0) (x := r103) hb40 rfl (rn_from ap2 (((o35.keepQ q38).keep on40 O38.d01).rd pr2_len (by decide)) o35.cap (by decide) (by simp) fun r133 hr _ _ => nn_ (Blk.st (i := 1) (o := 0) hb40 (show 0 + 1 + 1 ≤ 2 by decide) fun w42 hb42 on42 _ => ?_)))
    refine hN false _ _ ⟨F3, r133, hr.len, by simpa [splice] using hb42, O40.s1 ⟨on42, fun x e => .inl e⟩⟩ (by decide)
  | false =>
    obtain ⟨F3, s2, hs2, hb35, O35⟩ := hI
    refine jn.mk (fun c w' => c = false ∧ Quiet w35 w') ?_ ?_
    · show Go.Dec.tk _ _
      unfold Go.Dec.tk
      have qd : Quiet w35 w35.drew := Only.drew _ _
      refine nn_ (Blk.ld (i := 1) (o := 0) (x := s2) (hb35.keepQ qd) rfl ⟨fun e => ?_, fun _ => ⟨rfl, qd⟩⟩)
      have := of_decide_eq_true e
      omega
    rintro c w38 ⟨rfl, q38⟩
    refine ⟨fun e => (by cases e), fun _ => ?_⟩
    have hb38 := hb35.keepQ q38
    have q238 : Quiet w2 w38 := (Quiet.ofBelow O35.bl).tr q38
    refine nn_ (Blk.ld (i := 0) (o := 0) (x := low + 1) hb38 rfl (Blk.ld (i := 1) (o := 0) (x := s2) hb38 rfl ((hb10.keepQ q238).st0 (Nat.le_refl 2) fun w43 hb43 on43 s43 => ?_)))
    have hb43 : Blk w43 b10 38 #[.int .i64 (low + 1), Sl.v s2] := by simpa [splice] using hb43
    refine Blk.ld (i := 0) (o := 0) hb43 rfl (Blk.ld (i := 1) (o := 0) (x := s2) hb43 rfl ⟨rfl, hs2, rfl, (((q1.tr q2).tr q238)).new on43 fun x e => ?_⟩)
    have := q1.size
    omega
/-- a number that was there is not -/
theorem oagain_c (w : World) (low n most : Int) (s : Sl) (h : s.len = 0) (h0 : 0 ≤ n) (hn : n < low) (h1 : low ≤ 1099511627776) : callC Tryz.prog 10 #[liv low s, .int .i64 n, .int .i64 most] (fun (r : Int × Sl × Bool) => .tuple #[.agg #[.int .i64 r.1, r.2.1.v], .bool r.2.2]) w fun r w' =>
    r.2.2 = false ∧ Quiet w w' := by
  refine D10 _ _ _ _ w _ ?_
  unfold F10
  refine nwL fun b9 w1 hb9 q1 _ _ _ => nwL fun b10 w2 hb10 q2 g10 _ l10 => ?_
  have hB : ∀ w', Quiet w2 w' → Blk w' b9 38 #[.int .i64 low, s.v] := fun w' q => hb9.keepQ (q2.tr q)
  refine jn.mk (fun l w' => ∃ b s', l = some ⟨b, 0, none⟩ ∧ Blk w' b 38 #[.int .i64 low, Sl.v s'] ∧ Quiet w2 w') ?_ ?_
  · show Go.Dec.tk _ _
    unfold Go.Dec.tk
    have qd : Quiet w2 w2.drew := Only.drew _ _
    refine Blk.ld (i := 0) (o := 0) (hB _ qd) rfl (Blk.ld (i := 1) (o := 0) (x := s) (hB _ qd) rfl ⟨?_, ?_⟩)
    · refine (oclone_c _ s h).use ?_
      rintro r w4 ⟨F, o, f⟩
      have f2 : Fresh w2 w4 F := f.after qd
      refine ⟨Blk.ld0' (hB _ f2.q) rfl, nwL fun b16 w5 hb16 q5 g16 s16 l16 => ⟨Blk.ld0' (hB _ (f2.q.tr q5)) rfl, ?_⟩⟩
      refine hb16.st0 (Nat.le_refl 2) fun w6 hb6 on6 s6 => ⟨b16, r, rfl, by simpa [splice] using hb6, (f2.q.tr q5).new on6 fun x e => ?_⟩
      have := f2.q.size
      omega
    · refine nwL fun b18 w7 hb18 q7 g18 s18 l18 => ⟨Blk.ld0' (hB _ (qd.tr q7)) rfl, Blk.ld0' (hB _ (qd.tr q7)) rfl, (oclone_c w7 s h).use ?_⟩
      rintro r w8 ⟨F, o, f⟩
      refine ⟨Blk.ld0' (hB _ ((qd.tr q7).tr f.q)) rfl, ?_⟩
      refine (hb18.keepQ f.q).st0 (Nat.le_refl 2) fun w9 hb9' on9 s9 => ⟨b18, r, rfl, by simpa [splice] using hb9', ((qd.tr q7).tr f.q).new on9 fun x e => ?_⟩
      have : w2.drew.heap.size = w2.heap.size := rfl
      omega
  rintro l21 w10 ⟨b, s', rfl, hb, q10⟩
  refine Blk.ld (i := 0) (o := 0) (hB _ q10) rfl (Blk.ld (i := 1) (o := 0) (x := s) (hB _ q10) rfl ((oright_c w10 low s h (by omega) h1).use ?_))
  rintro r w11 ⟨rfl, q11⟩
  refine jn.mk (fun c w' => c = true ∧ Quiet w10 w') ⟨fun _ => ⟨rfl, q11⟩, fun _ => Blk.ld (i := 0) (o := 0) (hB _ (q10.tr q11)) rfl (Blk.ld (i := 1) (o := 0) (x := s) (hB _ (q10.tr q11)) rfl ((ohas_c w11 low n s h (by omega) h1).use ?_))⟩ ?_
  · rintro r w12 ⟨rfl, q12⟩
    exact ⟨decide_eq_true hn, q11.tr q12⟩
  rintro c w13 ⟨rfl, q13⟩
  refine ⟨fun _ => ?_, fun e => (by cases e)⟩
  have q213 := q10.tr q13
  refine nn_ (Blk.ld (i := 0) (o := 0) (x := low) (hb.keepQ q13) rfl (Blk.ld (i := 1) (o := 0) (x := s') (hb.keepQ q13) rfl ((hb10.keepQ q213).st0 (Nat.le_refl 2) fun w14 hb14 on14 _ => ?_)))
  have hb14 : Blk w14 b10 38 #[.int .i64 low, Sl.v s'] := by simpa [splice] using hb14
  refine Blk.ld (i := 0) (o := 0) hb14 rfl (Blk.ld (i := 1) (o := 0) (x := s') hb14 rfl ⟨rfl, ((q1.tr q2).tr q213).new on14 fun x e => ?_⟩)
  have := q1.size
  omega
end Go.Proofs.YtgbhghoppjfofaaGreat
