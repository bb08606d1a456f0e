import Derived.Test.YtmnhehklhelpeaaHe
namespace Go.Proofs.Ytmnhehklhelpeaa
open Go.Dec Go.RowKit
set_option maxHeartbeats 800000
set_option maxRecDepth 10000

theorem ap37 : appOK Try.prog 78 4 1 1 = true := by kernel_rfl
theorem ap51 : appOK Try.prog 79 83 2 24 = true := by kernel_rfl
/-! ### what a vault is -/
structure VS where
  good : List Bool
  boxes : List (Int × ByteArray)
def cb (b : Bool) : List Value := [.bool b]
def cs (s : ByteArray) : List Value := [.string s]
def cx (b : Int × ByteArray) : List Value := [.int .i64 b.1, .string b.2]
def VS.has (V : VS) (k : Int) : Bool := decide (0 ≤ k) && decide (k < (V.good.length : Int))
def VS.gd (V : VS) (k : Int) : Bool := V.good.getD k.toNat false
def VS.key (V : VS) : VS := { V with good := V.good ++ [true] }
def VS.lock (V : VS) (k : Int) (t : ByteArray) : VS × Int × Int :=
  if V.has k = true then (if V.gd k = true then ({ V with boxes := V.boxes ++ [(k, t)] }, (V.boxes.length : Int), 0) else (V, 0, 13)) else (V, 0, 4)
def VS.opn (V : VS) (k n : Int) : ByteArray × Int :=
  if n < 0 ∨ (V.boxes.length : Int) ≤ n then (ByteArray.mk #[], 4)
  else match V.boxes[n.toNat]? with
    | some b => if b.1 = k ∧ V.gd k = true then (b.2, 0) else (ByteArray.mk #[], 13)
    | none => (ByteArray.mk #[], 13)
def wipe (k : Int) (b : Int × ByteArray) : Int × ByteArray := if b.1 = k then (b.1, ByteArray.mk #[]) else b
def VS.destroy (V : VS) (k : Int) : VS × Int :=
  if V.has k = true then (if V.gd k = true then ({ good := V.good.set k.toNat false, boxes := V.boxes.map (wipe k) }, 0) else (V, 5)) else (V, 4)
/-- every box's key is one of the vault's -/
def VS.ok (V : VS) : Prop := ∀ b ∈ V.boxes, V.has b.1 = true

structure IsV (w : World) (F : Nat → Prop) (vb : Nat) (V : VS) : Prop where
  ex : ∃ gs bs : Sl, Blk w vb 81 #[gs.v, bs.v] ∧ Own w 4 1 gs (V.good.flatMap cb) ∧ Own w 83 2 bs (V.boxes.flatMap cx) ∧ F vb ∧ (∀ b, gs.blk = some b → F b) ∧ (∀ b, bs.blk = some b → F b)
  lt : ∀ b, F b → b < w.heap.size

theorem IsV.keep {w w' : World} {F G : Nat → Prop} {vb : Nat} {V : VS} (h : IsV w F vb V) (ho : Only G w w') (hd : ∀ b, F b → ¬ G b) : IsV w' F vb V := by
  obtain ⟨gs, bs, h1, h2, h3, h4, h5, h6⟩ := h.ex
  exact ⟨⟨gs, bs, h1.keep ho (hd _ h4), h2.keep ho fun b hb => hd _ (h5 b hb), h3.keep ho fun b hb => hd _ (h6 b hb), h4, h5, h6⟩, fun b hb => Nat.lt_of_lt_of_le (h.lt b hb) ho.size⟩
theorem IsV.keepQ {w w' : World} {F : Nat → Prop} {vb : Nat} {V : VS} (h : IsV w F vb V) (ho : Quiet w w') : IsV w' F vb V := h.keep ho fun _ _ => id
theorem cb1 (b : Bool) : (cb b).length = 1 := rfl
theorem cs1 (b : ByteArray) : (cs b).length = 1 := rfl
theorem cx2 (b : Int × ByteArray) : (cx b).length = 2 := rfl
theorem bool_ext {a b : Bool} (h : a = true ↔ b = true) : a = b := by cases a <;> cases b <;> simp_all

theorem has_c (w : World) (F : Nat → Prop) (vb : Nat) (V : VS) (k : Int) (h : IsV w F vb V) :
    callC Try.prog 38 #[.pointer (some ⟨vb, 0, none⟩), .int .i64 k] (fun (r : Bool) => .bool r) w fun r w' => r = V.has k ∧ w = w' := by
  obtain ⟨gs, bs, h1, h2, h3, h4, h5, h6⟩ := h.ex
  have hg := (h2.rd cb1 (by decide)).len
  refine D38 _ _ w _ ?_
  unfold F38
  refine jp.val (V.has k) ⟨fun hc => nn_ (h1.ld rfl ?_), fun hc => ?_⟩ ⟨rfl, rfl⟩
  · simp [VS.has, hc, hg]
  · simp [VS.has, hc]

theorem new_c (w : World) : callC Try.prog 24 #[] (fun (r : Option Addr) => .pointer r) w fun r w' => ∃ vb, r = some ⟨vb, 0, none⟩ ∧ IsV w' (fun b => b = vb) vb ⟨[], []⟩ ∧ Quiet w w' ∧ w.heap.size ≤ vb ∧ vb < w'.heap.size := by
  refine D24 w _ ?_
  unfold F24
  refine nwL fun b w' hB hq h1 h2 h3 => ?_
  exact ⟨b, rfl, ⟨⟨Sl.nil, Sl.nil, hB, Own.nil _ _ _, Own.nil _ _ _, rfl, fun b hb => by simp [Sl.blk, Sl.nil] at hb, fun b hb => by simp [Sl.blk, Sl.nil] at hb⟩, fun b e => by subst e; exact h3⟩, hq, h1, h3⟩

def gro (F : Nat → Prop) (w w' : World) : Nat → Prop := fun b => F b ∨ (w.heap.size ≤ b ∧ b < w'.heap.size)
theorem gro_lt {F : Nat → Prop} {w w' : World} (h : ∀ b, F b → b < w.heap.size) (hs : w.heap.size ≤ w'.heap.size) : ∀ b, gro F w w' b → b < w'.heap.size := fun b e => e.elim (fun e => Nat.lt_of_lt_of_le (h b e) hs) fun e => e.2
theorem Stp.gro {F G : Nat → Prop} {w w' : World} (h : Only G w w') (hs : ∀ b, G b → F b) : Stp F w (gro F w w') w' := ⟨h.mono fun b _ => hs b, fun _ h => h⟩

theorem key_c (w : World) (F : Nat → Prop) (vb : Nat) (V : VS) (h : IsV w F vb V) (hn : V.good.length ≤ 100000) :
    callC Try.prog 26 #[.pointer (some ⟨vb, 0, none⟩)] (fun (r : Int) => .int .i64 r) w fun r w' => r = V.good.length ∧ ∃ F', IsV w' F' vb V.key ∧ Stp F w F' w' := by
  obtain ⟨gs, bs, h1, h2, h3, h4, h5, h6⟩ := h.ex
  have hg := (h2.rd cb1 (by decide)).len
  refine D26 _ w _ ?_
  unfold F26
  refine nn_ (h1.ld rfl ?_)
  refine Own.push ap37 h2 rfl rfl (by unfold maxLen; omega) (by omega) fun r w1 ho hl hon hbk => ?_
  have hb1 : Blk w1 vb 81 #[gs.v, bs.v] := h1.keep hon fun e => h2.ne_blk h1 (by decide) e
  have ho3 : Own w1 83 2 bs (V.boxes.flatMap cx) := h3.keep hon fun b hb e => h3.ne_own h2 (by decide) b hb e
  refine nn_ (hb1.st (by simp) fun w2 hb2 hon2 hsz => ?_)
  refine nn_ (hb2.ld rfl ?_)
  rw [w64 (by omega) (by omega)]
  refine ⟨by omega, gro F w w2, ⟨⟨r, bs, hb2, ?_, ?_, .inl h4, ?_, fun b hb => .inl (h6 b hb)⟩, gro_lt h.lt (hon.trans hon2).size⟩, Stp.gro (hon.trans hon2) ?_⟩
  · have := ho.keep hon2 fun b hb e => ho.ne_blk hb1 (by decide) (by rw [hb, e])
    simpa [VS.key, cb] using this
  · exact ho3.keep hon2 fun b hb e => ho3.ne_blk hb1 (by decide) (by rw [hb, e])
  · intro b hb
    rcases hbk with e | ⟨b', e, hge⟩
    · exact .inl (h5 b (by rw [← e]; exact hb))
    · rw [hb] at e
      injection e with e
      subst e
      have := ho.lt hb
      exact .inr ⟨hge, by omega⟩
  · rintro b (e | e)
    · exact h5 b e
    · exact e ▸ h4

theorem has_bd {V : VS} {k : Int} (h : V.has k = true) : 0 ≤ k ∧ k < V.good.length := by simpa [VS.has] using h
theorem gd_of {V : VS} {k : Int} {x : Bool} (h : V.good[k.toNat]? = some x) : V.gd k = x := by simp [VS.gd, List.getD, h]

theorem lock_c (w : World) (F : Nat → Prop) (vb : Nat) (V : VS) (k : Int) (t : ByteArray) (h : IsV w F vb V) (hn : V.boxes.length ≤ 100000) :
    callC Try.prog 27 #[.pointer (some ⟨vb, 0, none⟩), .int .i64 k, .string t] (fun (r : Int × Int) => .tuple #[.int .i64 r.1, .int .i64 r.2]) w fun r w' =>
      r = (V.lock k t).2 ∧ ∃ F', IsV w' F' vb (V.lock k t).1 ∧ Stp F w F' w' := by
  refine D27 _ _ _ w _ ?_
  unfold F27
  refine (has_c w F vb V k h).use ?_
  rintro r w1 ⟨rfl, rfl⟩
  obtain ⟨gs, bs, h1, h2, h3, h4, h5, h6⟩ := h.ex
  have hbl := (h3.rd cx2 (by decide)).len
  refine ⟨fun hc => ?_, fun hc => ?_⟩
  · have hc' : V.has k = false := by simpa using hc
    simp only [VS.lock, hc', Bool.false_eq_true, if_false]
    exact ⟨trivial, F, h, Stp.refl _ _⟩
  have hc' : V.has k = true := by simpa using hc
  obtain ⟨k0, k1⟩ := has_bd hc'
  refine nn_ (h1.ld rfl ((h2.rd cb1 (by decide)).ix k0 k1 fun p x hx hat _ => hat.ld0 rfl ⟨fun hx' => ?_, fun hx' => ?_⟩))
  · have hg : V.gd k = false := by rw [gd_of hx]; simpa using hx'
    simp only [VS.lock, hc', hg, Bool.false_eq_true, if_true, if_false]
    exact ⟨trivial, F, h, Stp.refl _ _⟩
  have hg : V.gd k = true := by rw [gd_of hx]; simpa using hx'
  simp only [VS.lock, hc', hg, if_true]
  refine nn_ (h1.ld rfl ?_)
  refine Own.push ap51 h3 rfl rfl (by unfold maxLen; omega) (by omega) fun r w1 ho hl hon hbk => ?_
  have hb1 : Blk w1 vb 81 #[gs.v, bs.v] := h1.keep hon fun e => h3.ne_blk h1 (by decide) e
  have ho2 : Own w1 4 1 gs (V.good.flatMap cb) := h2.keep hon fun b hb e => h2.ne_own h3 (by decide) b hb e
  refine nn_ (hb1.st (by simp) fun w2 hb2 hon2 hsz => ?_)
  refine nn_ (hb2.ld rfl ?_)
  rw [w64 (by omega) (by omega)]
  refine ⟨by rw [Prod.mk.injEq]; exact ⟨by omega, rfl⟩, gro F w w2, ⟨⟨gs, r, hb2, ?_, ?_, .inl h4, fun b hb => .inl (h5 b hb), ?_⟩, gro_lt h.lt (hon.trans hon2).size⟩, Stp.gro (hon.trans hon2) ?_⟩
  · exact ho2.keep hon2 fun b hb e => ho2.ne_blk hb1 (by decide) (by rw [hb, e])
  · have := ho.keep hon2 fun b hb e => ho.ne_blk hb1 (by decide) (by rw [hb, e])
    simpa [cx] using this
  · intro b hb
    rcases hbk with e | ⟨b', e, hge⟩
    · exact .inl (h6 b (by rw [← e]; exact hb))
    · rw [hb] at e
      injection e with e
      subst e
      have := ho.lt hb
      exact .inr ⟨hge, by omega⟩
  · rintro b (e | e)
    · exact h6 b e
    · exact e ▸ h4

theorem open_c (w : World) (F : Nat → Prop) (vb : Nat) (V : VS) (k n : Int) (h : IsV w F vb V) (hok : V.ok) :
    callC Try.prog 29 #[.pointer (some ⟨vb, 0, none⟩), .int .i64 k, .int .i64 n] (fun (r : ByteArray × Int) => .tuple #[.string r.1, .int .i64 r.2]) w fun r w' =>
      r = V.opn k n ∧ Quiet w w' := by
  refine D29 _ _ _ w _ ?_
  unfold F29
  obtain ⟨gs, bs, h1, h2, h3, h4, h5, h6⟩ := h.ex
  have hbl := (h3.rd cx2 (by decide)).len
  refine jp.val (decide (n < 0) || decide ((V.boxes.length : Int) ≤ n)) ⟨fun hc => ?_, fun hc => nn_ (h1.ld rfl ?_)⟩ ⟨fun hc => ?_, fun hc => ?_⟩
  · simp [hc]
  · simp [hc, hbl]
  · have : n < 0 ∨ (V.boxes.length : Int) ≤ n := by simpa using hc
    exact ⟨by rw [VS.opn, if_pos this], Only.refl _ _⟩
  have hlt : ¬ (n < 0 ∨ (V.boxes.length : Int) ≤ n) := by simpa using hc
  rw [VS.opn, if_neg hlt]
  refine nn_ (h1.ld rfl ((h3.rd cx2 (by decide)).ix (by omega) (by omega) fun p x hx hat _ => hat.ld (j := 0) rfl (hat.ld (j := 1) rfl ?_)))
  rw [hx]
  refine nwL fun b w1 hb1 hq1 _ _ _ => ?_
  refine hb1.st0 (by simp) fun w2 hb2 hon2 _ => ?_
  have hq2 : Quiet w w2 := (hq1.trans hon2).mono fun b' hb' e => e.elim id fun e => by subst e; omega
  refine hb2.ld rfl ?_
  have hbl2 := h1.keepQ hq2
  refine jp.val (decide (x.1 = k) && V.gd k) ⟨fun hc => ?_, fun hc => ?_⟩ ⟨fun hc => ?_, fun hc => ?_⟩
  · have hk : x.1 = k := by simpa using hc
    obtain ⟨k0, k1⟩ := has_bd (hk ▸ hok x (List.mem_of_getElem? hx))
    refine nn_ (hbl2.ld rfl (((h2.keepQ hq2).rd cb1 (by decide)).ix k0 k1 fun p y hy hat _ => hat.ld0 rfl ?_))
    simp [hk, gd_of hy]
  · simp [hc]
  · have hk : x.1 = k ∧ V.gd k = true := by simpa using hc
    refine hb2.ld rfl ?_
    simp only [hk, and_self, if_true]
    exact ⟨trivial, hq2⟩
  · have hk : ¬ (x.1 = k ∧ V.gd k = true) := by simpa using hc
    simp only [if_neg hk]
    exact ⟨trivial, hq2⟩

theorem wipe_step (k : Int) (l : List (Int × ByteArray)) (i : Nat) (x : Int × ByteArray) (hx : l[i]? = some x) :
    ((l.map (wipe k)).take i ++ l.drop i)[i]? = some x ∧ ((l.map (wipe k)).take i ++ l.drop i).set i (wipe k x) = (l.map (wipe k)).take (i + 1) ++ l.drop (i + 1) := by
  have hi : i < l.length := (List.getElem?_eq_some_iff.1 hx).1
  have hlen : ((l.map (wipe k)).take i).length = i := by simp; omega
  refine ⟨?_, ?_⟩
  · rw [List.getElem?_append_right (by omega), hlen, Nat.sub_self, List.getElem?_drop]
    simpa using hx
  · rw [List.set_append_right _ _ (by omega), hlen, Nat.sub_self]
    have hd : l.drop i = x :: l.drop (i + 1) := by
      rw [List.drop_eq_getElem_cons hi]
      congr 1
      have := List.getElem?_eq_getElem hi
      rw [this] at hx
      exact Option.some.inj hx
    rw [hd, List.set_cons_zero, List.take_succ_eq_append_getElem (by simpa using hi)]
    have hxe : l[i] = x := by
      have := List.getElem?_eq_getElem hi
      rw [this] at hx
      exact Option.some.inj hx
    simp [hxe]

theorem destroy_c (w : World) (F : Nat → Prop) (vb : Nat) (V : VS) (k : Int) (h : IsV w F vb V) (hn : V.boxes.length ≤ 100000) :
    callC Try.prog 30 #[.pointer (some ⟨vb, 0, none⟩), .int .i64 k] (fun (r : Int) => .int .i64 r) w fun r w' =>
      r = (V.destroy k).2 ∧ ∃ F', IsV w' F' vb (V.destroy k).1 ∧ Stp F w F' w' := by
  refine D30 _ _ w _ ?_
  unfold F30
  refine (has_c w F vb V k h).use ?_
  rintro r w1 ⟨rfl, rfl⟩
  obtain ⟨gs, bs, h1, h2, h3, h4, h5, h6⟩ := h.ex
  have hbl := (h3.rd cx2 (by decide)).len
  refine ⟨fun hc => ?_, fun hc => ?_⟩
  · have hc' : V.has k = false := by simpa using hc
    simp only [VS.destroy, hc', Bool.false_eq_true, if_false]
    exact ⟨trivial, F, h, Stp.refl _ _⟩
  have hc' : V.has k = true := by simpa using hc
  obtain ⟨k0, k1⟩ := has_bd hc'
  refine nn_ (h1.ld rfl ((h2.rd cb1 (by decide)).ix k0 k1 fun p x hx hat _ => hat.ld0 rfl ⟨fun hx' => ?_, fun hx' => ?_⟩))
  · have hg : V.gd k = false := by rw [gd_of hx]; simpa using hx'
    simp only [VS.destroy, hc', hg, Bool.false_eq_true, if_true, if_false]
    exact ⟨trivial, F, h, Stp.refl _ _⟩
  have hg : V.gd k = true := by rw [gd_of hx]; simpa using hx'
  simp only [VS.destroy, hc', hg, if_true]
  refine nn_ (h1.ld rfl ?_)
  refine h2.set0 (y := false) cb1 k0 hx rfl (by decide) fun w1 hg1 hon1 _ => ?_
  have hb1 : Blk w1 vb 81 #[gs.v, bs.v] := h1.keep hon1 fun e => h2.ne_blk h1 (by decide) e
  have hx1 : Own w1 83 2 bs (V.boxes.flatMap cx) := h3.keep hon1 fun b hb e => h3.ne_own h2 (by decide) b hb e
  refine nn_ (hb1.ld rfl ?_)
  refine ⟨fun i w' => 0 ≤ i ∧ i ≤ V.boxes.length ∧ Blk w' vb 81 #[gs.v, bs.v] ∧ Own w' 4 1 gs ((V.good.set k.toNat false).flatMap cb) ∧
      Own w' 83 2 bs (((V.boxes.map (wipe k)).take i.toNat ++ V.boxes.drop i.toNat).flatMap cx) ∧ Only F w w', fun i _ => (V.boxes.length - i).toNat, ?_, ?_⟩
  · refine ⟨by omega, by omega, hb1, hg1, by simpa using hx1, hon1.mono fun b _ e => h5 b e⟩
  rintro i w2 ⟨i0, i1, b2, g2, x2, o2⟩
  refine ⟨fun hi => ?_, fun hi => ?_⟩
  · have hlt : i < V.boxes.length := by simp [hbl] at hi; exact hi
    have hi' : V.boxes[i.toNat]? = some (V.boxes[i.toNat]'(by omega)) := List.getElem?_eq_getElem (by omega)
    generalize V.boxes[i.toNat]'(by omega) = x at hi'
    obtain ⟨s1, s2⟩ := wipe_step k V.boxes i.toNat x hi'
    have hsucc : (i + 1).toNat = i.toNat + 1 := by omega
    have fin : ∀ w3, Blk w3 vb 81 #[gs.v, bs.v] → Own w3 4 1 gs ((V.good.set k.toNat false).flatMap cb) →
        Own w3 83 2 bs (((V.boxes.map (wipe k)).take (i.toNat + 1) ++ V.boxes.drop (i.toNat + 1)).flatMap cx) → Only F w w3 →
        (0 ≤ IntKind.i64.wrap (i + 1) ∧ IntKind.i64.wrap (i + 1) ≤ V.boxes.length ∧ Blk w3 vb 81 #[gs.v, bs.v] ∧ Own w3 4 1 gs ((V.good.set k.toNat false).flatMap cb) ∧
      Own w3 83 2 bs (((V.boxes.map (wipe k)).take (IntKind.i64.wrap (i + 1)).toNat ++ V.boxes.drop (IntKind.i64.wrap (i + 1)).toNat).flatMap cx) ∧ Only F w w3) ∧ (V.boxes.length - IntKind.i64.wrap (i + 1)).toNat < (V.boxes.length - i).toNat := by
      intro w3 a1 a2 a3 a4
      rw [w64 (by omega) (by omega), hsucc]
      exact ⟨⟨by omega, by omega, a1, a2, a3, a4⟩, by omega⟩
    refine jn.in_ ?_
    have hlen2 : ((V.boxes.map (wipe k)).take i.toNat ++ V.boxes.drop i.toNat).length = V.boxes.length := by simp; omega
    refine nn_ (b2.ld rfl ((x2.rd cx2 (by decide)).ix i0 (by rw [hlen2]; exact hlt) fun p y hy hat _ => hat.ld (j := 0) rfl ?_))
    rw [s1] at hy
    injection hy with hy
    subst hy
    refine ⟨fun hk => ?_, fun hk => ?_⟩
    · have hk' : x.1 = k := by simpa using hk
      refine nn_ (b2.ld rfl ?_)
      refine x2.set (y := wipe k x) cx2 i0 s1 (by simp [wipe, hk', cx]) (by decide) fun w3 x3 on3 _ => ?_
      rw [s2] at x3
      exact fin w3 (b2.keep on3 fun e => x2.ne_blk b2 (by decide) e) (g2.keep on3 fun b hb e => g2.ne_own x2 (by decide) b hb e) x3 (o2.then_ on3 fun b _ e => h6 b e)
    · have hk' : x.1 ≠ k := by simpa using hk
      have hw : wipe k x = x := by simp [wipe, hk']
      rw [hw] at s2
      have : ((V.boxes.map (wipe k)).take i.toNat ++ V.boxes.drop i.toNat).set i.toNat x = ((V.boxes.map (wipe k)).take i.toNat ++ V.boxes.drop i.toNat) := by
        obtain ⟨hh, he⟩ := List.getElem?_eq_some_iff.1 s1
        conv => lhs; rw [← he]
        exact List.set_getElem_self hh
      rw [this] at s2
      exact fin w2 b2 g2 (s2 ▸ x2) o2
  · have hge : i = V.boxes.length := by simp [hbl] at hi; omega
    subst hge
    refine ⟨trivial, F, ⟨⟨gs, bs, b2, g2, ?_, h4, h5, h6⟩, fun b hb => Nat.lt_of_lt_of_le (h.lt b hb) o2.size⟩, ⟨o2, fun _ => .inl⟩⟩
    simpa [List.take_of_length_le] using x2

/-- a clone: a row of its own, with the same in it -/
theorem clone_ {w : World} {t ty e sz bytes : Nat} {s : Sl} {xs : List Value} {K : Sl → World → Prop} (hok : appOK Try.prog t e sz bytes = true) (h : Own w e sz s xs) (h1 : xs.all Value.oneCell' = true) (h63 : s.len ≤ maxLen) (hb : s.len * bytes ≤ 140737488355328)
    (k : ∀ r w' F', OwnF w' F' e sz r xs → Quiet w w' → (∀ b, F' b → w.heap.size ≤ b ∧ b < w'.heap.size) → K r w') :
    cnd (s.a.isNone) (K Sl.nil w) (nw e #[] w fun b w1 => rn Try.prog (Builtin.append_ #[t, t] ty #[Sl.v (⟨some ⟨b, 0, none⟩, 0, 0⟩ : Sl), Sl.v s]) Sl.v w1 K) := by
  refine ⟨fun hc => ?_, fun hc => ?_⟩
  · rcases h.form with ⟨rfl, rfl⟩ | ⟨g, cur, h1, _⟩
    · exact k _ w (fun _ => False) (OwnF.nil _ _ _ _) (Only.refl _ _) fun b e => e.elim
    · rw [h1] at hc
      simp at hc
  · refine nwL fun b w1 hB hq hge hsz hlt => ?_
    obtain ⟨ad, ha⟩ : ∃ ad, s.a = some ad := by
      cases e : s.a with
      | none => rw [e] at hc; simp at hc
      | some ad => exact ⟨ad, rfl⟩
    have ho : Own w1 e sz (⟨some ⟨b, 0, none⟩, 0, 0⟩ : Sl) [] := Own.mk' rfl hB (Nat.le_refl _) (Nat.zero_le _) (by simp) (by simp)
    refine Own.append hok ho ⟨ad, ha, fun j u hu => ?_⟩ h.len h1 (by simpa using h63) (by simpa using hb) fun r w' ho' hl hon hbk => ?_
    · obtain ⟨g, hg, hcell⟩ := (h.keepQ hq).cell j u hu
      rw [ha] at hg
      injection hg with hg
      subst hg
      rw [mk_add, Nat.zero_add]
      exact hcell
    · have q : Quiet w w' := (hq.trans hon).mono fun b' hb' e => e.elim id fun e => by simp [Sl.blk] at e; omega
      refine k r w' (fun b => w.heap.size ≤ b ∧ b < w'.heap.size) ⟨by simpa using ho', fun b' hb' => ?_⟩ q fun b e => e
      have := ho'.lt hb'
      rcases hbk with e | e
      · rw [hb'] at e
        simp [Sl.blk] at e
        omega
      · rw [hb'] at e
        injection e with e
        omega

theorem all_one {α : Type} {c : α → List Value} (hc : ∀ x, (c x).all Value.oneCell' = true) (l : List α) : (l.flatMap c).all Value.oneCell' = true := by
  induction l with
  | nil => rfl
  | cons x l ih => simp only [List.flatMap_cons, List.all_append, hc, ih, Bool.and_self]

theorem clone24 (w : World) (s : Sl) (l : List Bool) (h : Own w 4 1 s (l.flatMap cb)) (hl : l.length ≤ 100000) :
    callC Try.prog 42 #[s.v] Sl.v w fun r w' => ∃ F', OwnF w' F' 4 1 r (l.flatMap cb) ∧ Quiet w w' ∧ ∀ b, F' b → w.heap.size ≤ b ∧ b < w'.heap.size := by
  have := (h.rd cb1 (by decide)).len
  refine D42 _ w _ ?_
  unfold F42
  exact clone_ (K := fun r w' => ∃ F', OwnF w' F' 4 1 r (l.flatMap cb) ∧ Quiet w w' ∧ ∀ b, F' b → w.heap.size ≤ b ∧ b < w'.heap.size) ap37 h (all_one (fun _ => rfl) l) (by unfold maxLen; omega) (by omega) fun r w' F' h1 h2 h3 => ⟨F', h1, h2, h3⟩
theorem clone25 (w : World) (s : Sl) (l : List (Int × ByteArray)) (h : Own w 83 2 s (l.flatMap cx)) (hl : l.length ≤ 100000) :
    callC Try.prog 43 #[s.v] Sl.v w fun r w' => ∃ F', OwnF w' F' 83 2 r (l.flatMap cx) ∧ Quiet w w' ∧ ∀ b, F' b → w.heap.size ≤ b ∧ b < w'.heap.size := by
  have := (h.rd cx2 (by decide)).len
  refine D43 _ w _ ?_
  unfold F43
  exact clone_ (K := fun r w' => ∃ F', OwnF w' F' 83 2 r (l.flatMap cx) ∧ Quiet w w' ∧ ∀ b, F' b → w.heap.size ≤ b ∧ b < w'.heap.size) ap51 h (all_one (fun _ => rfl) l) (by unfold maxLen; omega) (by omega) fun r w' F' h1 h2 h3 => ⟨F', h1, h2, h3⟩

theorem copy_c (w : World) (F : Nat → Prop) (vb : Nat) (V : VS) (h : IsV w F vb V) (hn : V.good.length ≤ 100000) (hn' : V.boxes.length ≤ 100000) :
    callC Try.prog 36 #[.pointer (some ⟨vb, 0, none⟩)] (fun (r : Option Addr) => .pointer r) w fun r w' => ∃ ub F', r = some ⟨ub, 0, none⟩ ∧ IsV w' F' ub V ∧ Quiet w w' ∧ ∀ b, F' b → w.heap.size ≤ b ∧ b < w'.heap.size := by
  refine D36 _ w _ ?_
  unfold F36
  refine jn.in_ ?_
  show tk w _
  unfold tk
  have h' := h.keepQ (Only.drew (fun _ => False) w)
  obtain ⟨gs, bs, h1, h2, h3, h4, h5, h6⟩ := h'.ex
  refine nn_ (h1.ld rfl (nn_ (h1.ld rfl ?_)))
  refine (clone24 _ gs V.good h2 hn).use ?_
  rintro r w2 ⟨F1, o1, q1, b1⟩
  refine ⟨(h1.keepQ q1).ld0' rfl, ?_⟩
  refine (clone25 w2 bs V.boxes (h3.keepQ q1) hn').use ?_
  rintro r2 w3 ⟨F2, o2, q2, b2⟩
  refine nwL fun b9 w4 hb9 q4 ge9 sz9 lt9 => ?_
  have s1 := q1.size
  have s2 := q2.size
  have s0 : w.heap.size = w.drew.heap.size := rfl
  refine ⟨b9, fun b => w.heap.size ≤ b ∧ b < w4.heap.size, rfl, ⟨⟨r, r2, hb9, o1.own.keepQ ((q2.trans q4).mono fun _ _ e => e.elim id id), o2.own.keepQ q4, by omega, fun b hb => ?_, fun b hb => ?_⟩, fun b e => e.2⟩, ?_, fun b e => e⟩
  · have := b1 b (o1.blk b hb)
    omega
  · have := b2 b (o2.blk b hb)
    omega
  · exact ((((Only.drew (fun _ => False) w).trans q1).trans q2).trans q4).mono fun _ _ e => by simp at e

end Go.Proofs.Ytmnhehklhelpeaa
