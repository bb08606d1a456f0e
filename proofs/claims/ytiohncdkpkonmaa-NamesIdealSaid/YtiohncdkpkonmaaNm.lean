import Derived.Test.YtiohncdkpkonmaaObj
import Derived.Test.YtiohncdkpkonmaaFs1
import Derived.Test.YtiohncdkpkonmaaFs2
namespace Go.Proofs.Ytiohncdkpkonmaa
open Go.Dec Go.RowKit
set_option maxHeartbeats 400000

def cs (s : ByteArray) : List Value := [.string s]
theorem cs1 (s : ByteArray) : (cs s).length = 1 := rfl
theorem csone (s : ByteArray) : (cs s).all Value.oneCell' = true := rfl
theorem ap22 : appOK Try.prog 22 9 1 16 = true := by kernel_rfl
theorem ap45 : appOK Try.prog 45 5 1 1 = true := by kernel_rfl
theorem k9 : KeyOK Try.prog 9 .string Value.string := keyOK_str (by kernel_rfl)
theorem u48 : Try.prog.underlying 48 = some (.map 9 3) := by kernel_rfl
theorem zv3 : (Try.prog.info? 3).bind (·.zero) = some (.int .i64 0) := by kernel_rfl
theorem zv5 : (Try.prog.info? 5).bind (·.zero) = some (.int .u8 0) := by kernel_rfl
theorem getq {α : Type} {l : List α} {i : Int} (h0 : 0 ≤ i) (h1 : i < l.length) : ∃ x, l[i.toNat]? = some x := ⟨_, List.getElem?_eq_getElem (by omega)⟩
theorem take_next {α : Type} {l : List α} {j : Nat} {x : α} (h : l[j]? = some x) : l.take (j + 1) = l.take j ++ [x] := by
  obtain ⟨hj, rfl⟩ := List.getElem?_eq_some_iff.1 h
  rw [List.take_succ_eq_append_getElem]

/-! ### where a text stands -/
def pos : List ByteArray → ByteArray → Option Nat
  | [], _ => none
  | x :: l, s => if x = s then some 0 else (pos l s).map (· + 1)
theorem pos_none : ∀ {l : List ByteArray} {s : ByteArray}, pos l s = none ↔ s ∉ l
  | [], s => by simp [pos]
  | x :: l, s => by
    unfold pos
    by_cases e : x = s
    · simp [e]
    · simp [e, pos_none (l := l), Ne.symm e]
theorem pos_some : ∀ {l : List ByteArray} {s : ByteArray} {i : Nat}, pos l s = some i → l[i]? = some s
  | [], s, i, h => by simp [pos] at h
  | x :: l, s, i, h => by
    unfold pos at h
    by_cases e : x = s
    · simp [e] at h
      subst h
      simp [e]
    · simp [e] at h
      obtain ⟨j, hj, rfl⟩ := h
      simpa using pos_some hj
theorem pos_lt {l : List ByteArray} {s : ByteArray} {i : Nat} (h : pos l s = some i) : i < l.length := (List.getElem?_eq_some_iff.1 (pos_some h)).1
theorem pos_mem {l : List ByteArray} {s : ByteArray} (h : s ∈ l) : ∃ i, pos l s = some i := by
  cases e : pos l s with
  | none => exact absurd h (pos_none.1 e)
  | some i => exact ⟨i, rfl⟩
theorem pos_app {s : ByteArray} {i : Nat} : ∀ {l : List ByteArray} (m : List ByteArray), pos l s = some i → pos (l ++ m) s = some i
  | [], m, h => by simp [pos] at h
  | x :: l, m, h => by
    unfold pos at h
    rw [List.cons_append]
    unfold pos
    by_cases e : x = s
    · simp [e] at h ⊢
      exact h
    · simp [e] at h ⊢
      obtain ⟨j, hj, rfl⟩ := h
      exact ⟨j, pos_app m hj, rfl⟩
theorem pos_snoc : ∀ {l : List ByteArray} {s : ByteArray}, s ∉ l → pos (l ++ [s]) s = some l.length
  | [], s, _ => by simp [pos]
  | x :: l, s, h => by
    have hx : x ≠ s := fun e => h (by simp [e])
    have hl : s ∉ l := fun e => h (List.mem_cons_of_mem _ e)
    rw [List.cons_append]
    unfold pos
    simp [hx, pos_snoc hl]
theorem pos_ne : ∀ {l : List ByteArray} {s t : ByteArray}, t ≠ s → pos (l ++ [s]) t = pos l t
  | [], s, t, h => by simp [pos, Ne.symm h]
  | x :: l, s, t, h => by
    rw [List.cons_append]
    unfold pos
    rw [pos_ne h]
theorem pos_of_get {l : List ByteArray} (hn : l.Nodup) : ∀ {i : Nat} {s : ByteArray}, l[i]? = some s → pos l s = some i := by
  intro i s h
  obtain ⟨j, hj⟩ := pos_mem (List.mem_of_getElem? h)
  have := pos_some hj
  obtain ⟨a1, a2⟩ := List.getElem?_eq_some_iff.1 h
  obtain ⟨b1, b2⟩ := List.getElem?_eq_some_iff.1 this
  have : i = j := (List.getElem_inj hn).1 (a2.trans b2.symm)
  rw [hj, this]
def ixm (l : List ByteArray) : ByteArray → Option Int := fun s => (pos l s).map fun (i : Nat) => (i : Int)
theorem ixm_push {l : List ByteArray} {s : ByteArray} (h : s ∉ l) : mset (ixm l) s (l.length : Int) = ixm (l ++ [s]) := by
  funext t
  by_cases e : t = s
  · subst e
    rw [mset_same]
    simp [ixm, pos_snoc h]
  · rw [mset_ne _ _ e]
    simp [ixm, pos_ne e]

/-! ### lists of texts -/
def ofP (l : List ByteArray) (s : ByteArray) : List ByteArray × Int :=
  if 65536 < s.size then (l, -1) else match pos l s with
    | some i => (l, (i : Int))
    | none => (l ++ [s], (l.length : Int))
theorem ofP_len (l : List ByteArray) (s : ByteArray) : (ofP l s).1.length ≤ l.length + 1 := by
  unfold ofP
  split
  · simp
  · split <;> simp
def textP (l : List ByteArray) (n : Int) : ByteArray × Bool := if n < 0 ∨ (l.length : Int) ≤ n then (ByteArray.mk #[], false) else ((l[n.toNat]?).getD (ByteArray.mk #[]), true)

structure IsN (w : World) (F : Nat → Prop) (nb : Nat) (L : List ByteArray) : Prop where
  ex : ∃ (ts : Sl) (mb : Nat), Blk w nb 50 #[ts.v, .map (some mb)] ∧ OwnF w F 9 1 ts (L.flatMap cs) ∧ Mp Value.string (Value.int .i64) w mb (ixm L) ∧ F nb ∧ F mb
  lt : ∀ b, F b → b < w.heap.size
theorem IsN.keep {w w' : World} {F G : Nat → Prop} {nb : Nat} {L : List ByteArray} (h : IsN w F nb L) (ho : Only G w w') (hd : ∀ b, F b → ¬ G b) : IsN w' F nb L := by
  obtain ⟨ts, mb, h1, h2, h3, h4, h5⟩ := h.ex
  exact ⟨⟨ts, mb, h1.keep ho (hd _ h4), h2.keep ho hd, h3.keep ho (hd _ h5), h4, h5⟩, fun b hb => Nat.lt_of_lt_of_le (h.lt b hb) ho.size⟩
theorem IsN.keepQ {w w' : World} {F : Nat → Prop} {nb : Nat} {L : List ByteArray} (h : IsN w F nb L) (ho : Quiet w w') : IsN w' F nb L := h.keep ho fun _ _ => id
structure IsR (w : World) (F : Nat → Prop) (nb : Nat) (L : List ByteArray) : Prop where
  ex : ∃ (ts : Sl), Blk w nb 47 #[ts.v] ∧ OwnF w F 9 1 ts (L.flatMap cs) ∧ F nb
  lt : ∀ b, F b → b < w.heap.size
theorem IsR.keep {w w' : World} {F G : Nat → Prop} {nb : Nat} {L : List ByteArray} (h : IsR w F nb L) (ho : Only G w w') (hd : ∀ b, F b → ¬ G b) : IsR w' F nb L := by
  obtain ⟨ts, h1, h2, h3⟩ := h.ex
  exact ⟨⟨ts, h1.keep ho (hd _ h3), h2.keep ho hd, h3⟩, fun b hb => Nat.lt_of_lt_of_le (h.lt b hb) ho.size⟩
theorem IsR.keepQ {w w' : World} {F : Nat → Prop} {nb : Nat} {L : List ByteArray} (h : IsR w F nb L) (ho : Quiet w w') : IsR w' F nb L := h.keep ho fun _ _ => id

theorem new_c (w : World) : callC Try.prog 12 #[] (fun (r : Option Addr) => .pointer r) w fun r w' => ∃ nb F, r = some ⟨nb, 0, none⟩ ∧ IsN w' F nb [] ∧ Fresh w w' F := by
  refine D12 w _ ?_
  unfold F12
  refine rn_makeMap (α := ByteArray) (β := Int) (ek := Value.string) (ev := Value.int .i64) (fun _ => rfl) fun mb w1 hm q1 g1 l1 _ => ?_
  refine nwL fun b w2 hb q2 g2 s2 l2 => ?_
  have hs := q2.size
  refine ⟨b, fun x => x = b ∨ x = mb, rfl, ⟨⟨Sl.nil, mb, hb, OwnF.nil _ _ _ _, ?_, .inl rfl, .inr rfl⟩, ?_⟩, q1.tr q2, ?_⟩
  · have : ixm [] = mnone := rfl
    rw [this]
    exact hm.keepQ q2
  · rintro x (e | e) <;> omega
  · have := q1.size
    rintro x (e | e) <;> omega
theorem rnew_c (w : World) : callC Try.prog 13 #[] (fun (r : Option Addr) => .pointer r) w fun r w' => ∃ nb F, r = some ⟨nb, 0, none⟩ ∧ IsR w' F nb [] ∧ Fresh w w' F := by
  refine D13 w _ ?_
  unfold F13
  refine nwL fun b w2 hb q2 g2 s2 l2 => ?_
  exact ⟨b, fun x => x = b, rfl, ⟨⟨Sl.nil, hb, OwnF.nil _ _ _ _, rfl⟩, fun x e => by omega⟩, q2, fun x e => by omega⟩

theorem of_c (w : World) (F : Nat → Prop) (nb : Nat) (L : List ByteArray) (s : ByteArray) (h : IsN w F nb L) (hl : L.length ≤ 100000) :
    callC Try.prog 14 #[.pointer (some ⟨nb, 0, none⟩), .string s] (fun (r : Int) => .int .i64 r) w fun r w' => r = (ofP L s).2 ∧ ∃ F', IsN w' F' nb (ofP L s).1 ∧ Stp F w F' w' := by
  obtain ⟨ts, mb, h1, h2, h3, h4, h5⟩ := h.ex
  have htl := (h2.rd cs1 (by decide)).len
  refine D14 _ _ w _ ?_
  unfold F14
  unfold ofP
  refine ⟨fun hc => ?_, fun hc => ?_⟩
  · have : 65536 < s.size := by simp at hc; omega
    rw [if_pos this]
    exact ⟨rfl, F, h, Stp.refl _ _⟩
  have : ¬ 65536 < s.size := by simp at hc; omega
  rw [if_neg this]
  refine nn_ (h1.ld (x := some mb) rfl ?_)
  refine rn_look (z := (0 : Int)) s h3 u48 k9 zv3 (((ixm L s).getD 0), (ixm L s).isSome) rfl ?_
  refine jn.in_ ⟨fun hc => ?_, fun hc => ?_⟩
  · have hn : pos L s = none := by
      simp [ixm] at hc
      exact hc
    rw [hn]
    dsimp only
    refine nn_ (h1.ld rfl (nn_ (h1.ld (x := some mb) rfl ?_)))
    rw [htl]
    refine rn_mset s (L.length : Int) h3 u48 k9 fun w3 m3 on3 s3 => ?_
    have hne := h3.ne_blk h1
    have b3 := h1.keep on3 hne
    have o3 : OwnF w3 F 9 1 ts (L.flatMap cs) := ⟨h2.own.keep on3 fun b hb e => h3.ne_own h2.own (by rw [hb, e]), h2.blk⟩
    refine nn_ (b3.ld rfl ?_)
    refine Own.push ap22 o3.own rfl rfl (by unfold maxLen; omega) (by omega) fun r w5 ho _ hon hbk => ?_
    have b5 := b3.keep hon fun e => o3.own.ne_blk b3 (by decide) e
    have m5 := m3.keep hon fun e => m3.ne_own o3.own e
    refine nn_ (b5.st (by simp) fun w6 b6 on6 s6 => ?_)
    rw [ixm_push (pos_none.1 hn)] at m5
    have hrow := ho.ne_blk b5 (by decide)
    have ho6 := ho.keep on6 fun b hb e => hrow (by rw [hb, e])
    have m6 := m5.keep on6 (fun e => m5.ne_blk b5 e.symm)
    have on := (on3.trans hon).trans on6
    refine ⟨rfl, gro F w w6, ⟨⟨r, mb, b6, ⟨by simpa [cs] using ho6, fun b hb => ?_⟩, m6, .inl h4, .inl h5⟩, gro_lt h.lt on.size⟩, Stp.gro on ?_⟩
    · rcases hbk with e | ⟨b', e, hge⟩
      · exact .inl (h2.blk b (by rw [← e]; exact hb))
      · rw [hb] at e
        injection e with e
        subst e
        have := ho6.lt hb
        exact .inr ⟨by omega, this⟩
    · rintro b ((e | e) | e)
      · exact e ▸ h5
      · exact h2.blk b e
      · exact e ▸ h4
  · cases hp : pos L s with
    | none => simp [ixm, hp] at hc
    | some i =>
      dsimp only
      exact ⟨by simp [ixm, hp], F, h, Stp.refl _ _⟩

theorem at_c (w : World) (F : Nat → Prop) (nb : Nat) (L : List ByteArray) (s : ByteArray) (h : IsR w F nb L) (hl : L.length ≤ 100000) :
    callC Try.prog 24 #[.pointer (some ⟨nb, 0, none⟩), .string s] (fun (r : Int) => .int .i64 r) w fun r w' => r = (match pos L s with | some i => (i : Int) | none => -1) ∧ w = w' := by
  obtain ⟨ts, h1, h2, h3⟩ := h.ex
  have hR := h2.rd cs1 (by decide)
  have htl := hR.len
  refine D24 _ _ w _ ?_
  unfold F24
  refine ⟨fun i w' => 0 ≤ i ∧ i ≤ L.length ∧ pos (L.take i.toNat) s = none ∧ w = w', fun i _ => (L.length - i).toNat, ⟨by omega, by omega, by simp [pos], rfl⟩, ?_⟩
  rintro i w1 ⟨i0, i1, hp, rfl⟩
  refine nn_ (h1.ld (x := ts) rfl ⟨fun hi => ?_, fun hi => ?_⟩)
  · have hlt : i < L.length := by simpa [htl] using hi
    refine nn_ (h1.ld (x := ts) rfl (hR.ix i0 hlt fun p x hx hat _ => hat.ld0 rfl ⟨fun hc => ?_, fun hc => ?_⟩))
    · have : x = s := (beqS_iff x s).1 hc
      subst this
      have h5 : pos (L.take i.toNat ++ [x]) x = some (L.take i.toNat).length := pos_snoc (pos_none.1 hp)
      rw [← take_next hx] at h5
      have h6 := pos_app (L.drop (i.toNat + 1)) h5
      rw [List.take_append_drop, List.length_take, Nat.min_eq_left (by omega)] at h6
      rw [h6]
      exact ⟨(Int.toNat_of_nonneg i0).symm, rfl⟩
    · have hne : x ≠ s := fun e => by rw [(beqS_iff x s).2 e] at hc; cases hc
      rw [w64 (by omega) (by omega)]
      refine ⟨⟨by omega, by omega, ?_, rfl⟩, by (try dsimp only); omega⟩
      rw [show (i + 1).toNat = i.toNat + 1 by omega, take_next hx, pos_ne (Ne.symm hne)]
      exact hp
  · have hge : L.length ≤ i.toNat := by simp [htl] at hi; omega
    rw [List.take_of_length_le hge] at hp
    rw [hp]
    exact ⟨rfl, rfl⟩

theorem rof_c (w : World) (F : Nat → Prop) (nb : Nat) (L : List ByteArray) (s : ByteArray) (h : IsR w F nb L) (hl : L.length ≤ 100000) :
    callC Try.prog 15 #[.pointer (some ⟨nb, 0, none⟩), .string s] (fun (r : Int) => .int .i64 r) w fun r w' => r = (ofP L s).2 ∧ ∃ F', IsR w' F' nb (ofP L s).1 ∧ Stp F w F' w' := by
  obtain ⟨ts, h1, h2, h3⟩ := h.ex
  have htl := (h2.rd cs1 (by decide)).len
  refine D15 _ _ w _ ?_
  unfold F15
  unfold ofP
  refine ⟨fun hc => ?_, fun hc => ?_⟩
  · have : 65536 < s.size := by simp at hc; omega
    rw [if_pos this]
    exact ⟨rfl, F, h, Stp.refl _ _⟩
  have : ¬ 65536 < s.size := by simp at hc; omega
  rw [if_neg this]
  refine (at_c w F nb L s h hl).use ?_
  rintro r w1 ⟨rfl, rfl⟩
  cases hp : pos L s with
  | some i =>
    dsimp only
    exact ⟨fun hc => absurd hc (by simp), fun _ => ⟨rfl, F, h, Stp.refl _ _⟩⟩
  | none =>
    dsimp only
    refine ⟨fun _ => ?_, fun hc => by simp at hc⟩
    refine nn_ (h1.ld rfl ?_)
    refine Own.push ap22 h2.own rfl rfl (by unfold maxLen; omega) (by omega) fun r w5 ho hrl hon hbk => ?_
    have b5 := h1.keep hon fun e => h2.own.ne_blk h1 (by decide) e
    refine nn_ (b5.st (by simp) fun w6 b6 on6 s6 => ?_)
    have hrow := ho.ne_blk b5 (by decide)
    have ho6 := ho.keep on6 fun b hb e => hrow (by rw [hb, e])
    have on := hon.trans on6
    refine nn_ (b6.ld rfl ?_)
    rw [hrl, htl, w64 (by omega) (by omega)]
    refine ⟨by omega, gro F w w6, ⟨⟨r, b6, ⟨by simpa [cs] using ho6, fun b hb => ?_⟩, .inl h3⟩, gro_lt h.lt on.size⟩, Stp.gro on ?_⟩
    · rcases hbk with e | ⟨b', e, hge⟩
      · exact .inl (h2.blk b (by rw [← e]; exact hb))
      · rw [hb] at e
        injection e with e
        subst e
        have := ho6.lt hb
        exact .inr ⟨by omega, this⟩
    · rintro b (e | e)
      · exact h2.blk b e
      · exact e ▸ h3

theorem text_c (w : World) (F : Nat → Prop) (nb : Nat) (L : List ByteArray) (n : Int) (h : IsN w F nb L) :
    callC Try.prog 16 #[.pointer (some ⟨nb, 0, none⟩), .int .i64 n] (fun (r : ByteArray × Bool) => .tuple #[.string r.1, .bool r.2]) w fun r w' => r = textP L n ∧ w = w' := by
  obtain ⟨ts, mb, h1, h2, h3, h4, h5⟩ := h.ex
  have hR := h2.rd cs1 (by decide)
  have htl := hR.len
  refine D16 _ _ w _ ?_
  unfold F16
  refine jp.val (decide (n < 0 ∨ (L.length : Int) ≤ n)) ⟨fun hc => ?_, fun hc => nn_ (h1.ld (x := ts) rfl ?_)⟩ ⟨fun hc => ?_, fun hc => ?_⟩
  · have : n < 0 := by simpa using hc
    simp [this]
  · have : ¬ n < 0 := by simpa using hc
    simp [this, htl]
  · have : n < 0 ∨ (L.length : Int) ≤ n := by simpa using hc
    unfold textP
    rw [if_pos this]
    exact ⟨rfl, rfl⟩
  · have : ¬ (n < 0 ∨ (L.length : Int) ≤ n) := of_decide_eq_false hc
    unfold textP
    rw [if_neg this]
    refine nn_ (h1.ld (x := ts) rfl (hR.ix (by omega) (by omega) fun p x hx hat _ => hat.ld0 rfl ?_))
    rw [hx]
    exact ⟨rfl, rfl⟩
theorem rtext_c (w : World) (F : Nat → Prop) (nb : Nat) (L : List ByteArray) (n : Int) (h : IsR w F nb L) :
    callC Try.prog 17 #[.pointer (some ⟨nb, 0, none⟩), .int .i64 n] (fun (r : ByteArray × Bool) => .tuple #[.string r.1, .bool r.2]) w fun r w' => r = textP L n ∧ w = w' := by
  obtain ⟨ts, h1, h2, h4⟩ := h.ex
  have hR := h2.rd cs1 (by decide)
  have htl := hR.len
  refine D17 _ _ w _ ?_
  unfold F17
  refine jp.val (decide (n < 0 ∨ (L.length : Int) ≤ n)) ⟨fun hc => ?_, fun hc => nn_ (h1.ld (x := ts) rfl ?_)⟩ ⟨fun hc => ?_, fun hc => ?_⟩
  · have : n < 0 := by simpa using hc
    simp [this]
  · have : ¬ n < 0 := by simpa using hc
    simp [this, htl]
  · have : n < 0 ∨ (L.length : Int) ≤ n := by simpa using hc
    unfold textP
    rw [if_pos this]
    exact ⟨rfl, rfl⟩
  · have : ¬ (n < 0 ∨ (L.length : Int) ≤ n) := of_decide_eq_false hc
    unfold textP
    rw [if_neg this]
    refine nn_ (h1.ld (x := ts) rfl (hR.ix (by omega) (by omega) fun p x hx hat _ => hat.ld0 rfl ?_))
    rw [hx]
    exact ⟨rfl, rfl⟩
theorem len_c (w : World) (F : Nat → Prop) (nb : Nat) (L : List ByteArray) (h : IsN w F nb L) :
    callC Try.prog 18 #[.pointer (some ⟨nb, 0, none⟩)] (fun (r : Int) => .int .i64 r) w fun r w' => r = (L.length : Int) ∧ w = w' := by
  obtain ⟨ts, mb, h1, h2, h3, h4, h5⟩ := h.ex
  have htl := (h2.rd cs1 (by decide)).len
  refine D18 _ w _ ?_
  unfold F18
  exact nn_ (h1.ld (x := ts) rfl ⟨by rw [htl], rfl⟩)
theorem rlen_c (w : World) (F : Nat → Prop) (nb : Nat) (L : List ByteArray) (h : IsR w F nb L) :
    callC Try.prog 19 #[.pointer (some ⟨nb, 0, none⟩)] (fun (r : Int) => .int .i64 r) w fun r w' => r = (L.length : Int) ∧ w = w' := by
  obtain ⟨ts, h1, h2, h4⟩ := h.ex
  have htl := (h2.rd cs1 (by decide)).len
  refine D19 _ w _ ?_
  unfold F19
  exact nn_ (h1.ld (x := ts) rfl ⟨by rw [htl], rfl⟩)

theorem sclone_c (w : World) (s : Sl) (L : List ByteArray) (h : Rd w cs 1 s L) (hl : L.length ≤ 1000000) :
    callC Try.prog 25 #[s.v] Sl.v w fun r w' => ∃ F, OwnF w' F 9 1 r (L.flatMap cs) ∧ Fresh w w' F := by
  refine D25 _ w _ ?_
  unfold F25
  refine ⟨fun hc => ?_, fun hc => ?_⟩
  · have : L = [] := (h.zero (by simpa using hc)).1
    subst this
    exact ⟨_, OwnF.nil _ _ _ _, Fresh.none w⟩
  · exact rn_copy ap22 h cs1 (by decide) csone (by unfold maxLen; omega) (by omega) fun r w' F ho _ hf => ⟨F, ho, hf⟩
theorem all_c (w : World) (F : Nat → Prop) (nb : Nat) (L : List ByteArray) (h : IsN w F nb L) (hl : L.length ≤ 1000000) :
    callC Try.prog 21 #[.pointer (some ⟨nb, 0, none⟩)] Sl.v w fun r w' => ∃ F, OwnF w' F 9 1 r (L.flatMap cs) ∧ Fresh w w' F := by
  obtain ⟨ts, mb, h1, h2, h3, h4, h5⟩ := h.ex
  refine D21 _ w _ ?_
  unfold F21
  exact nn_ (h1.ld rfl ((sclone_c w ts L (h2.rd cs1 (by decide)) hl).use fun r w' e => e))
theorem rall_c (w : World) (F : Nat → Prop) (nb : Nat) (L : List ByteArray) (h : IsR w F nb L) (hl : L.length ≤ 1000000) :
    callC Try.prog 22 #[.pointer (some ⟨nb, 0, none⟩)] Sl.v w fun r w' => ∃ F, OwnF w' F 9 1 r (L.flatMap cs) ∧ Fresh w w' F := by
  obtain ⟨ts, h1, h2, h4⟩ := h.ex
  refine D22 _ w _ ?_
  unfold F22
  refine nwL fun b w1 hB hq hge hsz hlt => nn_ ((h1.keepQ hq).ld (x := ts) rfl ?_)
  have ho : OwnF w1 (fun x => x = b) 9 1 (⟨some ⟨b, 0, none⟩, 0, 0⟩ : Sl) [] := ⟨Own.mk' rfl hB (Nat.le_refl _) (Nat.zero_le _) (by simp) (by simp), fun x hx => by simpa [Sl.blk] using hx.symm⟩
  have hf : Fresh w w1 (fun x => x = b) := ⟨hq, fun x hx => by subst hx; exact ⟨hge, hlt⟩⟩
  refine ho.app ap22 ((h2.keepQ hq).rd cs1 (by decide)) cs1 (by decide) csone (by simp; unfold maxLen; omega) (by simp; omega) fun r w' F' h2 h3 h4 => ?_
  exact ⟨F', by simpa using h2, hf.stp h4⟩

/-! ### long texts -/
def longP (n : Int) : ByteArray := strOfNums (List.replicate (min (max n 0) 65537).toNat 0)
theorem longP_size (n : Int) : (longP n).size = (min (max n 0) 65537).toNat := by rw [longP, strOfNums_size, List.length_replicate]
theorem long_c (w : World) (n : Int) : callC Try.prog 10 #[.int .i64 n] (fun (r : ByteArray) => .string r) w fun r w' => r = longP n ∧ Quiet w w' := by
  refine D10 _ w _ ?_
  unfold F10
  obtain ⟨k, hk⟩ : ∃ k : Nat, (min (max n 0) 65537) = (k : Int) := ⟨(min (max n 0) 65537).toNat, by omega⟩
  have hk2 : k ≤ 65537 := by omega
  have e : longP n = strOfNums (List.replicate k 0) := by unfold longP; rw [hk]; rfl
  rw [e, hk]
  refine rn_make1 ap45 zv5 rfl (by unfold maxLen; omega) (by omega) fun r w1 F ho hrl hf => ?_
  have hrun : ∀ dst, Try.prog.underlying dst = some .string → (convert 45 dst r.v).run Try.prog w1 = .ok (.string (strOfNums (List.replicate k 0))) w1 := by
    intro dst hd
    rcases ho.own.form with ⟨rfl, e⟩ | ⟨g, cur, h1, h2, _⟩
    · have : k = 0 := by
        have := congrArg List.length e
        simpa using this
      subst this
      rw [show Sl.nil.v = .slice none 0 0 from rfl, run_convert_bytes_nil w1 45 5 (by kernel_rfl) (by kernel_rfl) 0 0 dst hd]
      rfl
    · have := run_convert_bytes_arg (P := Try.prog) w1 45 5 (by kernel_rfl) (by kernel_rfl) g 0 r.len r.cap (List.replicate k 0) (by simp [hrl]) (fun i hi => by
        obtain ⟨g', hg', hc⟩ := ho.own.cell i (.int .u8 0) (by rw [List.getElem?_replicate, if_pos (by omega)])
        rw [h1] at hg'
        injection hg' with hg'
        injection hg' with hg'
        subst hg'
        rw [Nat.zero_add, hc]
        simp [List.getD, show i < k by omega]) dst hd
      rw [Sl.v, h1]
      exact this
  exact ⟨_, w1, hrun 9 (by kernel_rfl), rfl, hf.q⟩
end Go.Proofs.Ytiohncdkpkonmaa
