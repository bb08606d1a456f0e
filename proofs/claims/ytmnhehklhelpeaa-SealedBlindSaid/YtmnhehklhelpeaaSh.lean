import Derived.Test.YtmnhehklhelpeaaSg
namespace Go.Proofs.Ytmnhehklhelpeaa
open Go.Dec Go.RowKit
set_option maxHeartbeats 1600000
set_option maxRecDepth 10000

/-! ### the reference's safe -/
def cQ (b : Bo) : List Value := [.string b.text, .int .i64 b.need, .bool b.gone]
theorem cQ3 (b : Bo) : (cQ b).length = 3 := rfl
theorem apQ : appOK Try.prog 52 76 3 32 = true := by kernel_rfl
structure IsQ (w : World) (F : Nat → Prop) (rb : Nat) (l : List Bo) : Prop where
  ex : ∃ (H : Nat → Prop) (xs : Sl), Blk w rb 54 #[xs.v] ∧ OwnF w H 76 3 xs (l.flatMap cQ) ∧ ¬ H rb ∧ F rb ∧ (∀ b, H b → F b)
  lt : ∀ b, F b → b < w.heap.size
theorem IsQ.keep {w w' : World} {F D : Nat → Prop} {rb : Nat} {l : List Bo} (h : IsQ w F rb l) (ho : Only D w w') (hd : ∀ b, F b → ¬ D b) : IsQ w' F rb l := by
  obtain ⟨H, xs, h1, h2, h3, h4, h5⟩ := h.ex
  exact ⟨⟨H, xs, h1.keep ho (hd _ h4), h2.keep ho fun b hb => hd _ (h5 b hb), h3, h4, h5⟩, fun b hb => Nat.lt_of_lt_of_le (h.lt b hb) ho.size⟩
theorem IsQ.keepQ {w w' : World} {F : Nat → Prop} {rb : Nat} {l : List Bo} (h : IsQ w F rb l) (q : Quiet w w') : IsQ w' F rb l := h.keep q fun _ _ => id

theorem rseal_s (w : World) (F : Nat → Prop) (rb : Nat) (l : List Bo) (t : ByteArray) (k n seed : Int) (h : IsQ w F rb l) (hl : l.length ≤ 1000) :
    callC Try.prog 20 #[.pointer (some ⟨rb, 0, none⟩), .string t, .int .i64 k, .int .i64 n, .int .i64 seed] (fun (r : Int × Sl × Int) => .tuple #[.int .i64 r.1, Sl.v r.2.1, .int .i64 r.2.2]) w fun r w' => ∃ F' l', IsQ w' F' rb l' ∧ Stp F w F' w' ∧ SealR w F' l l' t k n seed r w' := by
  refine D20 _ _ _ _ _ w _ ?_
  unfold F20
  refine ⟨fun g => ?_, fun g => ?_⟩
  · have : ¬ okN k n := fun c => by
      simp only [Bool.or_eq_true, decide_eq_true_eq] at g
      obtain ⟨⟨c1, c2⟩, c3, c4⟩ := c
      omega
    exact ⟨F, l, h, Stp.refl _ _, .inl ⟨this, rfl, rfl⟩⟩
  simp only [Bool.or_eq_false_iff, decide_eq_false_iff_not] at g
  obtain ⟨⟨⟨g1, g2⟩, g3⟩, g4⟩ := g
  have ok : okN k n := ⟨⟨by omega, by omega⟩, by omega, by omega⟩
  refine ⟨fun g => ?_, fun g => ?_⟩
  · have g : 65536 < (t.size : Int) := of_decide_eq_true g
    exact ⟨F, l, h, Stp.refl _ _, .inr (.inl ⟨ok, by omega, rfl, rfl⟩)⟩
  have g : ¬ 65536 < (t.size : Int) := of_decide_eq_false g
  obtain ⟨H, xs, h1, h2, h3, h4, h5⟩ := h.ex
  have hxl := (h2.rd cQ3 (by decide)).len
  refine nn_ (h1.ld (o := 0) (i := 0) rfl ?_)
  refine (rsplit_c w xs.len k n seed).use ?_
  rintro r19 w1 ⟨_, hs, q1⟩
  obtain ⟨e19, P, oP, fP⟩ := hs ⟨by rw [hxl]; unfold Fld; omega, ok⟩
  refine ⟨fun g => by simp [e19] at g, fun _ => ?_⟩
  have hlt := h.lt
  have z1 := q1.size
  refine nn_ ((h1.keepQ q1).ld (o := 0) (i := 0) rfl ?_)
  refine (h2.keepQ q1).push (news := cQ ⟨t, k, false⟩) apQ rfl rfl (by unfold maxLen; omega) (by omega) fun r24 w3 H3 x3 _ s3 => ?_
  have z3 := s3.only.size
  have b3 := (h1.keepQ q1).keep s3.only h3
  have nH3 : ∀ b, b < w.heap.size → ¬ H b → ¬ H3 b := fun b hb hn e => by
    rcases s3.sub b e with e | e
    · exact hn e
    · omega
  refine nn_ (b3.st (o := 0) (i := 0) (by simp) fun w4 b4 on4 z4 => ?_)
  have hrb := hlt rb h4
  refine ⟨fun b => F b ∨ (w1.heap.size ≤ b ∧ b < w4.heap.size), l ++ [⟨t, k, false⟩], ⟨⟨H3, r24, b4, ?_, nH3 rb hrb h3, .inl h4, fun b hb => ?_⟩, ?_⟩, ⟨?_, ?_⟩, ?_⟩
  · have := x3.keep on4 fun b hb e => nH3 rb hrb h3 (e ▸ hb)
    simpa using this
  · rcases s3.sub b hb with e | e
    · exact .inl (h5 b e)
    · exact .inr (by omega)
  · rintro b (e | e)
    · have := hlt b e
      omega
    · exact e.2
  · exact ((Only.mono q1 fun b _ e => e.elim).then_ s3.only fun b _ e => h5 b e).then_ on4 fun b _ e => e ▸ h4
  · rintro b (e | e)
    · exact .inl e
    · exact .inr (by omega)
  · refine .inr (.inr ⟨ok, by omega, by rw [hxl], rfl, rfl, P, ?_, fun b hb => ?_⟩)
    · rw [hxl] at oP
      have hP : ∀ b, P b → ¬ H b := fun b hb e => by
        have := (fP.b b hb).1
        have := hlt b (h5 b e)
        omega
      exact (oP.keep s3.only hP).keep on4 fun b hb e => by
        have h1 := (fP.b b hb).1
        have h2 : b = rb := e
        omega
    · have h1 := fP.b b hb
      refine ⟨by omega, ?_⟩
      rintro (e | e)
      · have := hlt b e
        omega
      · omega
theorem ropen_s (w : World) (F : Nat → Prop) (rb : Nat) (l : List Bo) (i : Int) (s : Sl) (m : List Pt) (h : IsQ w F rb l) (hm : Rd w pt 2 s m) (hcap : s.len ≤ s.cap) (hml : m.length ≤ 1000) :
    callC Try.prog 21 #[.pointer (some ⟨rb, 0, none⟩), .int .i64 i, s.v] (fun (r : ByteArray × Int) => .tuple #[.string r.1, .int .i64 r.2]) w fun r w' => OpenR l i m r ∧ Quiet w w' := by
  refine D21 _ _ _ w _ ?_
  unfold F21
  obtain ⟨H, xs, h1, h2, h3, h4, h5⟩ := h.ex
  have hx := h2.rd cQ3 (by decide)
  have hxl := hx.len
  refine jp.val (decide (i < 0) || decide ((l.length : Int) ≤ i)) ⟨fun hc => ?_, fun hc => nn_ (h1.ld (o := 0) (i := 0) rfl ?_)⟩ ⟨fun hc => ?_, fun hc => ?_⟩
  · simp [hc]
  · simp [hc, hxl]
  · have : i < 0 ∨ (l.length : Int) ≤ i := by simpa using hc
    exact ⟨.inl ⟨this, rfl⟩, Only.refl _ _⟩
  have hlt : ¬ (i < 0 ∨ (l.length : Int) ≤ i) := by simpa using hc
  obtain ⟨b, hb⟩ := getq (l := l) (show 0 ≤ i by omega) (by omega)
  refine nn_ (h1.ld (o := 0) (i := 0) rfl (hx.ixx (by omega) hb fun p hat _ => hat.ld (j := 1) rfl ?_))
  refine (rjoin_c w s m b.need hm hcap hml).use ?_
  rintro r19 w1 ⟨hj, q1⟩
  refine ⟨fun g => ⟨.inr ⟨b, r19, by omega, hb, hj, .inl ⟨nd g, rfl⟩⟩, q1⟩, fun g => ?_⟩
  have g : r19.2 = 0 := nt g
  refine jp_or (v := b.gone) (fun _ J hJ => nn_ ((h1.keepQ q1).ld (o := 0) (i := 0) rfl ((hx.keepQ q1).ixx (by omega) hb fun p hat _ => hat.ld (j := 2) rfl hJ))) ⟨fun hc => ?_, fun hc => ?_⟩
  · refine ⟨.inr ⟨b, r19, by omega, hb, hj, .inr ⟨g, .inl ⟨?_, rfl⟩⟩⟩, q1⟩
    rw [Bool.or_eq_true] at hc
    exact hc.imp (fun e => nd e) id
  · rw [Bool.or_eq_false_iff] at hc
    refine nn_ ((h1.keepQ q1).ld (o := 0) (i := 0) rfl ((hx.keepQ q1).ixx (by omega) hb fun p hat _ => hat.ld (j := 0) rfl ?_))
    exact ⟨.inr ⟨b, r19, by omega, hb, hj, .inr ⟨g, .inr ⟨nt hc.1, hc.2, rfl⟩⟩⟩, q1⟩
theorem rburn_s (w : World) (F : Nat → Prop) (rb : Nat) (l : List Bo) (i : Int) (h : IsQ w F rb l) :
    callC Try.prog 22 #[.pointer (some ⟨rb, 0, none⟩), .int .i64 i] (fun (r : Int) => .int .i64 r) w fun r w' => r = (burnL l i).2 ∧ ∃ F', IsQ w' F' rb (burnL l i).1 ∧ Stp F w F' w' := by
  refine D22 _ _ w _ ?_
  unfold F22
  obtain ⟨H, xs, h1, h2, h3, h4, h5⟩ := h.ex
  have hx := h2.rd cQ3 (by decide)
  have hxl := hx.len
  refine jp.val (decide (i < 0) || decide ((l.length : Int) ≤ i)) ⟨fun hc => ?_, fun hc => nn_ (h1.ld (o := 0) (i := 0) rfl ?_)⟩ ⟨fun hc => ?_, fun hc => ?_⟩
  · simp [hc]
  · simp [hc, hxl]
  · have : i < 0 ∨ (l.length : Int) ≤ i := by simpa using hc
    unfold burnL
    rw [if_pos this]
    exact ⟨rfl, F, h, Stp.refl _ _⟩
  have hlt : ¬ (i < 0 ∨ (l.length : Int) ≤ i) := by simpa using hc
  obtain ⟨b, hb⟩ := getq (l := l) (show 0 ≤ i by omega) (by omega)
  have hbu : burnL l i = if b.gone = true then (l, 5) else (l.set i.toNat { b with gone := true }, 0) := by
    unfold burnL
    rw [if_neg hlt, hb]
  rw [hbu]
  refine nn_ (h1.ld (o := 0) (i := 0) rfl (hx.ixx (by omega) hb fun p hat _ => hat.ld (j := 2) rfl ⟨fun hg => ?_, fun hg => ?_⟩))
  · rw [if_pos hg]
    exact ⟨rfl, F, h, Stp.refl _ _⟩
  · rw [if_neg (by rw [hg]; simp)]
    refine nn_ (h1.ld (o := 0) (i := 0) rfl ?_)
    refine h2.setj (x := b) (y := { b with gone := true }) (j := 2) cQ3 (by omega) hb rfl (by decide) fun w1 x1 on1 z1 => ?_
    exact ⟨rfl, F, ⟨⟨H, xs, h1.keep on1 h3, x1, h3, h4, h5⟩, fun b hb => by have := h.lt b hb; omega⟩, ⟨on1.mono fun b _ e => h5 b e, fun b e => .inl e⟩⟩

theorem cloneX (w : World) (s : Sl) (l : List (Int × Int × Int)) (h : Own w 69 3 s (l.flatMap c3)) (hl : l.length ≤ 100000) :
    callC Try.prog 37 #[s.v] Sl.v w fun r w' => ∃ F', OwnF w' F' 69 3 r (l.flatMap c3) ∧ Quiet w w' ∧ ∀ b, F' b → w.heap.size ≤ b ∧ b < w'.heap.size := by
  have := (h.rd c3l (by decide)).len
  refine D37 _ w _ ?_
  unfold F37
  exact clone_ (K := fun r w' => ∃ F', OwnF w' F' 69 3 r (l.flatMap c3) ∧ Quiet w w' ∧ ∀ b, F' b → w.heap.size ≤ b ∧ b < w'.heap.size) apX h (all_one (fun _ => rfl) l) (by unfold maxLen; omega) (by omega) fun r w' F' h1 h2 h3 => ⟨F', h1, h2, h3⟩
theorem copy_s (w : World) (F : Nat → Prop) (sb : Nat) (l : List Bo) (h : IsS w F sb l) (hl : l.length ≤ 1000) :
    callC Try.prog 23 #[.pointer (some ⟨sb, 0, none⟩)] (fun (r : Option Addr) => .pointer r) w fun r w' => ∃ ub F', r = some ⟨ub, 0, none⟩ ∧ IsS w' F' ub l ∧ Quiet w w' ∧ ∀ b, F' b → w.heap.size ≤ b := by
  refine D23 _ w _ ?_
  unfold F23
  refine jn.in_ ?_
  show tk w _
  unfold tk
  have qd : Quiet w w.drew := Only.drew _ _
  obtain ⟨G, H, vb, xs, h1, h2, h3, h4, h5, h6, h7, h8, h9⟩ := (h.keepQ qd).ex
  refine nn_ (h1.ld (o := 0) (i := 0) rfl (nn_ (h1.ld (o := 0) (i := 1) rfl ?_)))
  refine (copy_c _ G vb _ h2 (by rw [good_len]; omega) (by rw [boxes_len]; omega)).use ?_
  rintro _ w2 ⟨ub, G', rfl, v2, q2, f2⟩
  refine ⟨(h1.keepQ q2).ld0' rfl, ?_⟩
  refine (cloneX w2 xs _ (h3.own.keepQ q2) (by rw [valX_len]; omega)).use ?_
  rintro r16 w3 ⟨H', x3, q3, f3⟩
  refine nwL fun b17 w4 hb17 q4 g4 z4 l4 => ?_
  have s2 := q2.size
  have s3 := q3.size
  have s0 : w.heap.size = w.drew.heap.size := rfl
  have q24 := q3.tr q4
  refine ⟨b17, fun b => w.heap.size ≤ b ∧ b < w4.heap.size, rfl, ⟨⟨G', H', ub, r16, hb17, v2.keepQ q24, x3.keepQ q4, ?_, ?_, ?_, by omega, ?_, ?_⟩, fun b e => e.2⟩, (qd.tr q2).tr q24, fun b e => e.1⟩
  · intro b hb hb'
    have := f2 b hb
    have := f3 b hb'
    omega
  · intro hb
    have := f2 _ hb
    omega
  · intro hb
    have := f3 _ hb
    omega
  · intro b hb
    have := f2 b hb
    omega
  · intro b hb
    have := f3 b hb
    omega
end Go.Proofs.Ytmnhehklhelpeaa
