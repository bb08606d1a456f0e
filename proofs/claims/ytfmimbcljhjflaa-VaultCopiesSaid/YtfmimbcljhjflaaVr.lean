import Derived.Test.YtfmimbcljhjflaaVm
namespace Go.Proofs.Ytfmimbcljhjflaa
open Go.Dec
set_option maxHeartbeats 400000

/-! ### the reference's vault -/
structure RS where
  good : List Bool
  of_ : List Int
  texts : List ByteArray
def RS.state (R : RS) (k : Int) : Int := if k < 0 ∨ (R.good.length : Int) ≤ k then 0 else if R.good.getD k.toNat false = true then 1 else 2
def RS.key (R : RS) : RS := { R with good := R.good ++ [true] }
def RS.lock (R : RS) (k : Int) (t : ByteArray) : RS × Int × Int :=
  if R.state k = 0 then (R, 0, 4) else if R.state k = 2 then (R, 0, 13) else ({ R with of_ := R.of_ ++ [k], texts := R.texts ++ [t] }, (R.of_.length : Int), 0)
def RS.opn (R : RS) (k n : Int) : ByteArray × Int :=
  if n < 0 ∨ (R.of_.length : Int) ≤ n then (ByteArray.mk #[], 4)
  else if R.of_.getD n.toNat 0 ≠ k ∨ R.state k ≠ 1 then (ByteArray.mk #[], 13) else (R.texts.getD n.toNat e0, 0)
def RS.destroy (R : RS) (k : Int) : RS × Int :=
  if R.state k = 0 then (R, 4) else if R.state k = 2 then (R, 5) else ({ R with good := R.good.set k.toNat false }, 0)

structure IsR (w : World) (F : Nat → Prop) (vb : Nat) (R : RS) : Prop where
  ex : ∃ gs os ts : Sl, Blk w vb 41 #[gs.v, os.v, ts.v] ∧ Own w 4 1 gs (R.good.flatMap cb) ∧ Own w 3 1 os (R.of_.flatMap ci) ∧ Own w 9 1 ts (R.texts.flatMap cs) ∧ F vb ∧ (∀ b, gs.blk = some b → F b) ∧ (∀ b, os.blk = some b → F b) ∧ (∀ b, ts.blk = some b → F b)
  lt : ∀ b, F b → b < w.heap.size
theorem IsR.keep {w w' : World} {F G : Nat → Prop} {vb : Nat} {R : RS} (h : IsR w F vb R) (ho : Only G w w') (hd : ∀ b, F b → ¬ G b) : IsR w' F vb R := by
  obtain ⟨gs, os, ts, h1, h2, h3, h4, h5, h6, h7, h8⟩ := h.ex
  exact ⟨⟨gs, os, ts, h1.keep ho (hd _ h5), h2.keep ho fun b hb => hd _ (h6 b hb), h3.keep ho fun b hb => hd _ (h7 b hb), h4.keep ho fun b hb => hd _ (h8 b hb), h5, h6, h7, h8⟩, fun b hb => Nat.lt_of_lt_of_le (h.lt b hb) ho.size⟩
theorem IsR.keepQ {w w' : World} {F : Nat → Prop} {vb : Nat} {R : RS} (h : IsR w F vb R) (ho : Quiet w w') : IsR w' F vb R := h.keep ho fun _ _ => id

theorem rnew_c (w : World) : callC Try.prog 10 #[] (fun (r : Option Addr) => .pointer r) w fun r w' => ∃ vb, r = some ⟨vb, 0, none⟩ ∧ IsR w' (fun b => b = vb) vb ⟨[], [], []⟩ ∧ Quiet w w' ∧ w.heap.size ≤ vb ∧ vb < w'.heap.size := by
  refine D10 w _ ?_
  unfold F10
  refine nwL fun b w' hB hq h1 h2 h3 => ?_
  exact ⟨b, rfl, ⟨⟨Sl.nil, Sl.nil, Sl.nil, hB, Own.nil _ _ _, Own.nil _ _ _, Own.nil _ _ _, rfl, fun b hb => by simp [Sl.blk, Sl.nil] at hb, fun b hb => by simp [Sl.blk, Sl.nil] at hb, fun b hb => by simp [Sl.blk, Sl.nil] at hb⟩, fun b e => by subst e; exact h3⟩, hq, h1, h3⟩

theorem state_c (w : World) (F : Nat → Prop) (vb : Nat) (R : RS) (k : Int) (h : IsR w F vb R) :
    callC Try.prog 27 #[.pointer (some ⟨vb, 0, none⟩), .int .i64 k] (fun (r : Int) => .int .i64 r) w fun r w' => r = R.state k ∧ w = w' := by
  obtain ⟨gs, os, ts, h1, h2, h3, h4, h5, h6, h7, h8⟩ := h.ex
  have hg := (h2.rd cb1 (by decide)).len
  refine D27 _ _ w _ ?_
  unfold F27
  refine jp.val (decide (k < 0) || decide ((R.good.length : Int) ≤ k)) ⟨fun hc => ?_, fun hc => nn_ (h1.ld rfl ?_)⟩ ⟨fun hc => ?_, fun hc => ?_⟩
  · simp [hc]
  · simp [hc, hg]
  · have : k < 0 ∨ (R.good.length : Int) ≤ k := by simpa using hc
    exact ⟨by rw [RS.state, if_pos this], rfl⟩
  · have hk : ¬ (k < 0 ∨ (R.good.length : Int) ≤ k) := by simpa using hc
    refine nn_ (h1.ld rfl ((h2.rd cb1 (by decide)).ix (by omega) (by omega) fun p x hx hat _ => hat.ld0 rfl ⟨fun hx' => ?_, fun hx' => ?_⟩))
    · exact ⟨by rw [RS.state, if_neg hk]; simp [List.getD, hx, hx'], rfl⟩
    · exact ⟨by rw [RS.state, if_neg hk]; simp [List.getD, hx, hx'], rfl⟩

theorem rkey_c (w : World) (F : Nat → Prop) (vb : Nat) (R : RS) (h : IsR w F vb R) (hn : R.good.length ≤ 100000) :
    callC Try.prog 20 #[.pointer (some ⟨vb, 0, none⟩)] (fun (r : Int) => .int .i64 r) w fun r w' => r = R.good.length ∧ ∃ F', IsR w' F' vb R.key ∧ Stp F w F' w' := by
  obtain ⟨gs, os, ts, h1, h2, h3, h4, h5, h6, h7, h8⟩ := h.ex
  have hg := (h2.rd cb1 (by decide)).len
  refine D20 _ w _ ?_
  unfold F20
  refine nn_ (h1.ld rfl ?_)
  refine Own.push ap37 h2 rfl rfl (by unfold maxLen; omega) (by omega) fun r w1 ho hl hon hbk => ?_
  have hb1 : Blk w1 vb 41 #[gs.v, os.v, ts.v] := h1.keep hon fun e => h2.ne_blk h1 (by decide) e
  have ho3 : Own w1 3 1 os (R.of_.flatMap ci) := h3.keep hon fun b hb e => h3.ne_own h2 (by decide) b hb e
  have ho4 : Own w1 9 1 ts (R.texts.flatMap cs) := h4.keep hon fun b hb e => h4.ne_own h2 (by decide) b hb e
  refine nn_ (hb1.st (by simp) fun w2 hb2 hon2 hsz => ?_)
  refine nn_ (hb2.ld rfl ?_)
  rw [w64 (by omega) (by omega)]
  refine ⟨by omega, gro F w w2, ⟨⟨r, os, ts, hb2, ?_, ?_, ?_, .inl h5, ?_, fun b hb => .inl (h7 b hb), fun b hb => .inl (h8 b hb)⟩, gro_lt h.lt (hon.trans hon2).size⟩, Stp.gro (hon.trans hon2) ?_⟩
  · have := ho.keep hon2 fun b hb e => ho.ne_blk hb1 (by decide) (by rw [hb, e])
    simpa [RS.key, cb] using this
  · exact ho3.keep hon2 fun b hb e => ho3.ne_blk hb1 (by decide) (by rw [hb, e])
  · exact ho4.keep hon2 fun b hb e => ho4.ne_blk hb1 (by decide) (by rw [hb, e])
  · intro b hb
    rcases hbk with e | ⟨b', e, hge⟩
    · exact .inl (h6 b (by rw [← e]; exact hb))
    · rw [hb] at e
      injection e with e
      subst e
      have := ho.lt hb
      exact .inr ⟨hge, by omega⟩
  · rintro b (e | e)
    · exact h6 b e
    · exact e ▸ h5

theorem rlock_c (w : World) (F : Nat → Prop) (vb : Nat) (R : RS) (k : Int) (t : ByteArray) (h : IsR w F vb R) (hn : R.of_.length ≤ 100000) (hn' : R.texts.length ≤ 100000) :
    callC Try.prog 21 #[.pointer (some ⟨vb, 0, none⟩), .int .i64 k, .string t] (fun (r : Int × Int) => .tuple #[.int .i64 r.1, .int .i64 r.2]) w fun r w' =>
      r = (R.lock k t).2 ∧ ∃ F', IsR w' F' vb (R.lock k t).1 ∧ Stp F w F' w' := by
  refine D21 _ _ _ w _ ?_
  unfold F21
  refine (state_c w F vb R k h).use ?_
  rintro r w1 ⟨rfl, rfl⟩
  obtain ⟨gs, os, ts, h1, h2, h3, h4, h5, h6, h7, h8⟩ := h.ex
  have hol := (h3.rd ci1 (by decide)).len
  have htl := (h4.rd cs1 (by decide)).len
  refine ⟨fun hc => ?_, fun hc => ⟨fun hc2 => ?_, fun hc2 => ?_⟩⟩
  · have hc' : R.state k = 0 := by simpa using hc
    simp only [RS.lock, hc', if_true]
    exact ⟨trivial, F, h, Stp.refl _ _⟩
  · have hc' : R.state k = 2 := by simpa using hc2
    have : ¬ ((2 : Int) = 0) := by decide
    simp only [RS.lock, hc', if_true, if_neg this]
    exact ⟨trivial, F, h, Stp.refl _ _⟩
  have c0 : ¬ R.state k = 0 := by simpa using hc
  have c2 : ¬ R.state k = 2 := by simpa using hc2
  simp only [RS.lock, if_neg c0, if_neg c2]
  refine nn_ (h1.ld rfl ?_)
  refine Own.push ap38 h3 rfl rfl (by unfold maxLen; omega) (by omega) fun r w1 ho hl hon hbk => ?_
  have hb1 : Blk w1 vb 41 #[gs.v, os.v, ts.v] := h1.keep hon fun e => h3.ne_blk h1 (by decide) e
  have g1 : Own w1 4 1 gs (R.good.flatMap cb) := h2.keep hon fun b hb e => h2.ne_own h3 (by decide) b hb e
  have t1 : Own w1 9 1 ts (R.texts.flatMap cs) := h4.keep hon fun b hb e => h4.ne_own h3 (by decide) b hb e
  refine nn_ (hb1.st (by simp) fun w2 hb2 hon2 hsz2 => ?_)
  have g2 := g1.keep hon2 fun b hb e => g1.ne_blk hb1 (by decide) (by rw [hb, e])
  have t2 := t1.keep hon2 fun b hb e => t1.ne_blk hb1 (by decide) (by rw [hb, e])
  have o2 := ho.keep hon2 fun b hb e => ho.ne_blk hb1 (by decide) (by rw [hb, e])
  have hb2' : Blk w2 vb 41 #[gs.v, r.v, ts.v] := hb2
  refine nn_ (hb2'.ld rfl ?_)
  refine Own.push ap39 t2 rfl rfl (by unfold maxLen; omega) (by omega) fun q w3 hq hql hon3 hbk3 => ?_
  have hb3 : Blk w3 vb 41 #[gs.v, r.v, ts.v] := hb2'.keep hon3 fun e => t2.ne_blk hb2' (by decide) e
  have g3 := g2.keep hon3 fun b hb e => g2.ne_own t2 (by decide) b hb e
  have o3 := o2.keep hon3 fun b hb e => o2.ne_own t2 (by decide) b hb e
  refine nn_ (hb3.st (by simp) fun w4 hb4 hon4 hsz4 => ?_)
  have hb4' : Blk w4 vb 41 #[gs.v, r.v, q.v] := hb4
  refine nn_ (hb4'.ld rfl ?_)
  rw [w64 (by omega) (by omega)]
  have hall : Only F w w4 := (((hon.mono fun b _ e => h7 b e).then_ hon2 fun b _ e => e ▸ h5).then_ hon3 fun b _ e => h8 b e).then_ hon4 fun b _ e => e ▸ h5
  have s1 := hon.size
  have s3 := hon3.size
  refine ⟨by rw [Prod.mk.injEq]; exact ⟨by omega, rfl⟩, gro F w w4, ⟨⟨gs, r, q, hb4', g3.keep hon4 fun b hb e => g3.ne_blk hb3 (by decide) (by rw [hb, e]), ?_, ?_, .inl h5, fun b hb => .inl (h6 b hb), ?_, ?_⟩, gro_lt h.lt hall.size⟩, Stp.gro hall fun b e => e⟩
  · have := o3.keep hon4 fun b hb e => o3.ne_blk hb3 (by decide) (by rw [hb, e])
    simpa [ci] using this
  · have := hq.keep hon4 fun b hb e => hq.ne_blk hb3 (by decide) (by rw [hb, e])
    simpa [cs] using this
  · intro b hb
    rcases hbk with e | ⟨b', e, hge⟩
    · exact .inl (h7 b (by rw [← e]; exact hb))
    · rw [hb] at e
      injection e with e
      subst e
      have := ho.lt hb
      exact .inr ⟨hge, by omega⟩
  · intro b hb
    rcases hbk3 with e | ⟨b', e, hge⟩
    · exact .inl (h8 b (by rw [← e]; exact hb))
    · rw [hb] at e
      injection e with e
      subst e
      have := hq.lt hb
      exact .inr ⟨by omega, by omega⟩

theorem ropen_c (w : World) (F : Nat → Prop) (vb : Nat) (R : RS) (k n : Int) (h : IsR w F vb R) (hok : R.texts.length = R.of_.length) :
    callC Try.prog 22 #[.pointer (some ⟨vb, 0, none⟩), .int .i64 k, .int .i64 n] (fun (r : ByteArray × Int) => .tuple #[.string r.1, .int .i64 r.2]) w fun r w' =>
      r = R.opn k n ∧ w = w' := by
  refine D22 _ _ _ w _ ?_
  unfold F22
  obtain ⟨gs, os, ts, h1, h2, h3, h4, h5, h6, h7, h8⟩ := h.ex
  have hol := (h3.rd ci1 (by decide)).len
  refine jp.val (decide (n < 0) || decide ((R.of_.length : Int) ≤ n)) ⟨fun hc => ?_, fun hc => nn_ (h1.ld rfl ?_)⟩ ⟨fun hc => ?_, fun hc => ?_⟩
  · simp [hc]
  · simp [hc, hol]
  · have : n < 0 ∨ (R.of_.length : Int) ≤ n := by simpa using hc
    exact ⟨by rw [RS.opn, if_pos this], rfl⟩
  have hlt : ¬ (n < 0 ∨ (R.of_.length : Int) ≤ n) := by simpa using hc
  rw [RS.opn, if_neg hlt]
  refine nn_ (h1.ld rfl ((h3.rd ci1 (by decide)).ix (by omega) (by omega) fun p x hx hat _ => hat.ld0 rfl ?_))
  have hx' : R.of_.getD n.toNat 0 = x := by simp [List.getD, hx]
  rw [hx']
  refine jn.mk (fun c w' => c = decide (x ≠ k ∨ R.state k ≠ 1) ∧ w = w') ⟨fun hc => ?_, fun hc => ?_⟩ ?_
  · have : x ≠ k := by simpa using hc
    exact ⟨by simp [this], rfl⟩
  · have hk : x = k := by simpa using hc
    refine (state_c w F vb R k h).use ?_
    rintro r w1 ⟨rfl, rfl⟩
    exact ⟨by simp [hk], rfl⟩
  rintro c w1 ⟨rfl, rfl⟩
  refine ⟨fun hc => ?_, fun hc => ?_⟩
  · have : x ≠ k ∨ R.state k ≠ 1 := by simpa using hc
    rw [if_pos this]
    exact ⟨rfl, rfl⟩
  · have : ¬ (x ≠ k ∨ R.state k ≠ 1) := by simpa using hc
    rw [if_neg this]
    refine nn_ (h1.ld rfl ((h4.rd cs1 (by decide)).ix (by omega) (by omega) fun p y hy hat _ => hat.ld0 rfl ?_))
    exact ⟨by simp [List.getD, hy], rfl⟩

theorem rdestroy_c (w : World) (F : Nat → Prop) (vb : Nat) (R : RS) (k : Int) (h : IsR w F vb R) :
    callC Try.prog 23 #[.pointer (some ⟨vb, 0, none⟩), .int .i64 k] (fun (r : Int) => .int .i64 r) w fun r w' =>
      r = (R.destroy k).2 ∧ ∃ F', IsR w' F' vb (R.destroy k).1 ∧ Stp F w F' w' := by
  refine D23 _ _ w _ ?_
  unfold F23
  refine (state_c w F vb R k h).use ?_
  rintro r w1 ⟨rfl, rfl⟩
  obtain ⟨gs, os, ts, h1, h2, h3, h4, h5, h6, h7, h8⟩ := h.ex
  refine ⟨fun hc => ?_, fun hc => ⟨fun hc2 => ?_, fun hc2 => ?_⟩⟩
  · have hc' : R.state k = 0 := by simpa using hc
    simp only [RS.destroy, hc', if_true]
    exact ⟨trivial, F, h, Stp.refl _ _⟩
  · have hc' : R.state k = 2 := by simpa using hc2
    have : ¬ ((2 : Int) = 0) := by decide
    simp only [RS.destroy, hc', if_true, if_neg this]
    exact ⟨trivial, F, h, Stp.refl _ _⟩
  have c0 : ¬ R.state k = 0 := by simpa using hc
  have c2 : ¬ R.state k = 2 := by simpa using hc2
  simp only [RS.destroy, if_neg c0, if_neg c2]
  have hk : ¬ (k < 0 ∨ (R.good.length : Int) ≤ k) := fun e => c0 (by rw [RS.state, if_pos e])
  have hx : R.good[k.toNat]? = some (R.good[k.toNat]'(by omega)) := List.getElem?_eq_getElem (by omega)
  refine nn_ (h1.ld rfl (h2.set0 (y := false) cb1 (by omega) hx rfl (by decide) fun w2 g2 on2 _ => ?_))
  refine ⟨trivial, F, ⟨⟨gs, os, ts, h1.keep on2 fun e => h2.ne_blk h1 (by decide) e, g2, h3.keep on2 fun b hb e => h3.ne_own h2 (by decide) b hb e, h4.keep on2 fun b hb e => h4.ne_own h2 (by decide) b hb e, h5, h6, h7, h8⟩, fun b hb => Nat.lt_of_lt_of_le (h.lt b hb) on2.size⟩, ⟨on2.mono fun b _ e => h6 b e, fun _ => .inl⟩⟩
end Go.Proofs.Ytfmimbcljhjflaa
