import Derived.Test.YtaogjbmgobfdoaaObj
import Derived.Test.YtaogjbmgobfdoaaFs1
import Derived.Test.YtaogjbmgobfdoaaFs2
import Derived.Test.YtaogjbmgobfdoaaFs3
import Derived.Test.YtaogjbmgobfdoaaFs4
namespace Go.Proofs.Ytaogjbmgobfdoaa
open Go.Dec Go.RowKit
set_option maxHeartbeats 400000

def ci (i : Int) : List Value := [.int .i64 i]
theorem ci1 (i : Int) : (ci i).length = 1 := rfl
theorem cione (i : Int) : (ci i).all Value.oneCell' = true := rfl
def cb (b : Bool) : List Value := [.bool b]
theorem cb1 (b : Bool) : (cb b).length = 1 := rfl
theorem cbone (b : Bool) : (cb b).all Value.oneCell' = true := rfl
theorem ap22 : appOK Try.prog 22 3 1 8 = true := by kernel_rfl
theorem ap47 : appOK Try.prog 47 4 1 1 = true := by kernel_rfl
theorem k3 : KeyOK Try.prog 3 (.int .i64) (Value.int .i64) := keyOK_int (by kernel_rfl)
theorem u62 : Try.prog.underlying 62 = some (.map 3 4) := by kernel_rfl
theorem zv4 : (Try.prog.info? 4).bind (·.zero) = some (.bool false) := by kernel_rfl
theorem getq {α : Type} {l : List α} {i : Int} (h0 : 0 ≤ i) (h1 : i < l.length) : ∃ x, l[i.toNat]? = some x := ⟨_, List.getElem?_eq_getElem (by omega)⟩
theorem take_next {α : Type} {l : List α} {j : Nat} {x : α} (h : l[j]? = some x) : l.take (j + 1) = l.take j ++ [x] := by
  obtain ⟨hj, rfl⟩ := List.getElem?_eq_some_iff.1 h
  rw [List.take_succ_eq_append_getElem]
theorem bq {W w : World} (q : Quiet W w) : Below W.heap.size W w := q.below (Nat.le_refl _) fun _ e => e.elim

/-! ### numbers one after the other -/
def seqI (a : Int) : Nat → List Int
  | 0 => []
  | n + 1 => a :: seqI (a + 1) n
theorem seqI_len : ∀ (n : Nat) (a : Int), (seqI a n).length = n
  | 0, a => rfl
  | n + 1, a => by simp [seqI, seqI_len n]
theorem seqI_snoc : ∀ (n : Nat) (a : Int), seqI a (n + 1) = seqI a n ++ [a + n]
  | 0, a => by simp [seqI]
  | n + 1, a => by
    have e : a + 1 + (n : Int) = a + ((n + 1 : Nat) : Int) := by omega
    rw [seqI, seqI_snoc n (a + 1), e]
    rfl
theorem seqI_get : ∀ {n : Nat} {a : Int} {i : Nat}, i < n → (seqI a n)[i]? = some (a + i)
  | n + 1, a, 0, _ => by simp [seqI]
  | n + 1, a, i + 1, h => by
    have e : a + 1 + (i : Int) = a + ((i + 1 : Nat) : Int) := by omega
    rw [seqI, List.getElem?_cons_succ, seqI_get (by omega), e]
theorem mem_seqI {n : Nat} {a x : Int} : x ∈ seqI a n ↔ a ≤ x ∧ x < a + n := by
  induction n generalizing a with
  | zero => simp [seqI]
  | succ n ih =>
    rw [seqI, List.mem_cons, ih]
    omega

/-! ### senders -/
structure SS where
  W : Int
  N : Int
  B : Int
structure SS.ok (S : SS) : Prop where
  w0 : 1 ≤ S.W
  w1 : S.W ≤ 64
  b0 : 0 ≤ S.B
  b1 : S.B ≤ S.N
  n1 : S.N ≤ 900
def SS.send (S : SS) : SS := { S with N := S.N + 1 }
def SS.ack (S : SS) (n : Int) : SS := if n < 0 ∨ S.N < n ∨ S.B + S.W < n then S else { S with B := max S.B n }
def SS.err (S : SS) (n : Int) : Int := if n < 0 ∨ S.N < n ∨ S.B + S.W < n then 1 else 0
def SS.frames (S : SS) : List Int := seqI S.B (min S.W (S.N - S.B)).toNat
theorem SS.ok.ack {S : SS} (h : S.ok) (n : Int) : (S.ack n).ok := by
  obtain ⟨h0, h1, h2, h3, h4⟩ := h
  unfold SS.ack
  split
  · exact ⟨h0, h1, h2, h3, h4⟩
  · exact ⟨h0, h1, by dsimp only; omega, by dsimp only; omega, h4⟩
theorem SS.frames_len (S : SS) : S.frames.length = (min S.W (S.N - S.B)).toNat := seqI_len _ _

structure IsS (w : World) (F : Nat → Prop) (b : Nat) (S : SS) : Prop where
  blk : Blk w b 60 #[.int .i64 S.W, .int .i64 S.N, .int .i64 S.B]
  mem : F b
  lt : ∀ b, F b → b < w.heap.size
theorem IsS.keep {w w' : World} {F G : Nat → Prop} {b : Nat} {S : SS} (h : IsS w F b S) (ho : Only G w w') (hd : ∀ b, F b → ¬ G b) : IsS w' F b S := ⟨h.blk.keep ho (hd _ h.mem), h.mem, fun b hb => Nat.lt_of_lt_of_le (h.lt b hb) ho.size⟩
theorem IsS.keepQ {w w' : World} {F : Nat → Prop} {b : Nat} {S : SS} (h : IsS w F b S) (ho : Quiet w w') : IsS w' F b S := h.keep ho fun _ _ => id
structure IsT (w : World) (F : Nat → Prop) (b : Nat) (S : SS) : Prop where
  blk : Blk w b 44 #[.int .i64 S.W, .int .i64 S.N, .int .i64 S.B]
  mem : F b
  lt : ∀ b, F b → b < w.heap.size
theorem IsT.keep {w w' : World} {F G : Nat → Prop} {b : Nat} {S : SS} (h : IsT w F b S) (ho : Only G w w') (hd : ∀ b, F b → ¬ G b) : IsT w' F b S := ⟨h.blk.keep ho (hd _ h.mem), h.mem, fun b hb => Nat.lt_of_lt_of_le (h.lt b hb) ho.size⟩
theorem IsT.keepQ {w w' : World} {F : Nat → Prop} {b : Nat} {S : SS} (h : IsT w F b S) (ho : Quiet w w') : IsT w' F b S := h.keep ho fun _ _ => id

def win (n : Int) : Prop := 1 ≤ n ∧ n ≤ 64
instance (n : Int) : Decidable (win n) := by unfold win; infer_instance
theorem news_c (w : World) (n : Int) : callC Try.prog 8 #[.int .i64 n] (fun (r : Option Addr × Int) => .tuple #[.pointer r.1, .int .i64 r.2]) w fun r w' =>
    (win n → ∃ b F, r = (some ⟨b, 0, none⟩, 0) ∧ IsS w' F b ⟨n, 0, 0⟩ ∧ Fresh w w' F) ∧ (¬ win n → r = (none, 1)) ∧ Quiet w w' := by
  refine D8 _ w _ ?_
  unfold F8
  refine ⟨fun hc => ?_, fun hc => ?_⟩
  · have : ¬ win n := by unfold win; simp at hc; omega
    exact ⟨fun h => absurd h this, fun _ => rfl, Only.refl _ _⟩
  · have : win n := by unfold win; simp at hc; omega
    refine nwL fun b w1 hb q g _ l => ⟨fun _ => ⟨b, fun x => x = b, rfl, ⟨hb, rfl, fun x e => by omega⟩, q, fun x e => by omega⟩, fun h => absurd this h, q⟩
theorem window_c (w : World) (n : Int) : callC Try.prog 26 #[.int .i64 n] (fun (r : Bool) => .bool r) w fun r w' => r = decide (win n) ∧ w = w' := by
  refine D26 _ w _ ?_
  unfold F26
  exact ⟨by rw [Bool.eq_iff_iff, Bool.and_eq_true, decide_eq_true_iff, decide_eq_true_iff, decide_eq_true_iff]; exact Iff.rfl, rfl⟩
theorem newt_c (w : World) (n : Int) : callC Try.prog 9 #[.int .i64 n] (fun (r : Option Addr × Int) => .tuple #[.pointer r.1, .int .i64 r.2]) w fun r w' =>
    (win n → ∃ b F, r = (some ⟨b, 0, none⟩, 0) ∧ IsT w' F b ⟨n, 0, 0⟩ ∧ Fresh w w' F) ∧ (¬ win n → r = (none, 1)) ∧ Quiet w w' := by
  refine D9 _ w _ ?_
  unfold F9
  refine (window_c w n).use ?_
  rintro r w1 ⟨rfl, rfl⟩
  refine ⟨fun hc => ?_, fun hc => ?_⟩
  · have : ¬ win n := by simpa using hc
    exact ⟨fun h => absurd h this, fun _ => rfl, Only.refl _ _⟩
  · have : win n := by simpa using hc
    refine nwL fun b w1 hb q g _ l => ⟨fun _ => ⟨b, fun x => x = b, rfl, ⟨hb, rfl, fun x e => by omega⟩, q, fun x e => by omega⟩, fun h => absurd this h, q⟩

theorem left_c (w : World) (F : Nat → Prop) (b : Nat) (S : SS) (h : IsS w F b S) (hk : S.ok) :
    callC Try.prog 19 #[.pointer (some ⟨b, 0, none⟩)] (fun (r : Int) => .int .i64 r) w fun r w' => r = S.N - S.B ∧ Quiet w w' := by
  obtain ⟨k0, k1, k2, k3, k4⟩ := hk
  refine D19 _ w _ ?_
  unfold F19
  refine jn.in_ ?_
  show tk w _
  unfold tk
  have qd : Quiet w w.drew := Only.drew _ _
  have hb := h.blk.keepQ qd
  refine nn_ (hb.ld rfl (nn_ (hb.ld rfl ⟨?_, qd⟩)))
  rw [w64 (by omega) (by omega)]
theorem send_c (w : World) (F : Nat → Prop) (b : Nat) (S : SS) (h : IsS w F b S) (hk : S.ok) :
    callC Try.prog 12 #[.pointer (some ⟨b, 0, none⟩)] (fun (r : Int × Int) => .tuple #[.int .i64 r.1, .int .i64 r.2]) w fun r w' => r = (S.N, 0) ∧ IsS w' F b S.send ∧ Stp F w F w' := by
  refine D12 _ w _ ?_
  unfold F12
  refine (left_c w F b S h hk).use ?_
  rintro r w1 ⟨rfl, q1⟩
  obtain ⟨k0, k1, k2, k3, k4⟩ := hk
  refine ⟨fun hc => ?_, fun _ => ?_⟩
  · have : S.N - S.B = 1000 := by simpa using hc
    omega
  have hb := h.blk.keepQ q1
  refine nn_ (hb.ld rfl (nn_ (hb.ld rfl (nn_ (hb.st (by simp) fun w2 hb2 on s2 => ?_)))))
  rw [w64 (by omega) (by omega)] at hb2
  have hlt := (h.keepQ q1).lt
  exact ⟨rfl, ⟨hb2, h.mem, fun x hx => by have := hlt x hx; omega⟩, (Stp.quiet q1).trans ⟨on.mono fun x _ e => e ▸ h.mem, fun x e => .inl e⟩⟩
theorem tsend_c (w : World) (F : Nat → Prop) (b : Nat) (S : SS) (h : IsT w F b S) (hk : S.ok) :
    callC Try.prog 13 #[.pointer (some ⟨b, 0, none⟩)] (fun (r : Int × Int) => .tuple #[.int .i64 r.1, .int .i64 r.2]) w fun r w' => r = (S.N, 0) ∧ IsT w' F b S.send ∧ Stp F w F w' := by
  obtain ⟨k0, k1, k2, k3, k4⟩ := hk
  refine D13 _ w _ ?_
  unfold F13
  refine jn.mk (fun c w' => c = false ∧ Quiet w w') ?_ ?_
  · show tk w _
    unfold tk
    have qd : Quiet w w.drew := Only.drew _ _
    have hb := h.blk.keepQ qd
    refine nn_ (hb.ld rfl (nn_ (hb.ld rfl ⟨?_, qd⟩)))
    rw [w64 (by omega) (by omega)]
    simp
    omega
  rintro c w1 ⟨rfl, q1⟩
  refine ⟨fun hc => (by cases hc), fun _ => ?_⟩
  have hb := h.blk.keepQ q1
  refine nn_ (hb.ld rfl (nn_ (hb.st (by simp) fun w2 hb2 on s2 => nn_ (hb2.ld rfl ?_))))
  rw [w64 (x := S.N + 1) (by omega) (by omega)] at hb2 ⊢
  have hlt := (h.keepQ q1).lt
  refine ⟨?_, ⟨hb2, h.mem, fun x hx => by have := hlt x hx; omega⟩, (Stp.quiet q1).trans ⟨on.mono fun x _ e => e ▸ h.mem, fun x e => .inl e⟩⟩
  rw [w64 (by omega) (by omega)]
  congr 1
  omega

theorem ack_c (w : World) (F : Nat → Prop) (b : Nat) (S : SS) (n : Int) (h : IsS w F b S) (hk : S.ok) :
    callC Try.prog 14 #[.pointer (some ⟨b, 0, none⟩), .int .i64 n] (fun (r : Int) => .int .i64 r) w fun r w' => r = S.err n ∧ IsS w' F b (S.ack n) ∧ Stp F w F w' := by
  obtain ⟨k0, k1, k2, k3, k4⟩ := hk
  refine D14 _ _ w _ ?_
  unfold F14
  refine jn.mk (fun c w' => c = decide (n < 0 ∨ S.N < n ∨ S.B + S.W < n) ∧ Quiet w w') ?_ ?_
  · show tk w _
    unfold tk
    have qd : Quiet w w.drew := Only.drew _ _
    have hb := h.blk.keepQ qd
    refine ⟨fun hc => ⟨fun _ => ⟨?_, qd⟩, fun hc => (by cases hc)⟩, fun hc => nn_ (hb.ld rfl ⟨fun hc2 => ⟨?_, qd⟩, fun hc2 => nn_ (hb.ld rfl (nn_ (hb.ld rfl ⟨?_, qd⟩)))⟩)⟩
    · have : n < 0 := by simpa using hc
      simp [this]
    · have : S.N < n := by simpa using hc2
      simp [this]
    · have h1 : ¬ n < 0 := by simpa using hc
      have h2 : ¬ S.N < n := by simpa using hc2
      rw [w64 (by omega) (by omega)]
      simp [h1, h2]
  rintro c w1 ⟨rfl, q1⟩
  unfold SS.err SS.ack
  refine ⟨fun hc => ?_, fun hc => ?_⟩
  · have := of_decide_eq_true hc
    rw [if_pos this, if_pos this]
    exact ⟨rfl, h.keepQ q1, Stp.quiet q1⟩
  · have := of_decide_eq_false hc
    rw [if_neg this, if_neg this]
    have hb := h.blk.keepQ q1
    have hlt := (h.keepQ q1).lt
    refine nn_ (hb.ld rfl (nn_ (hb.st (by simp) fun w2 hb2 on s2 => ?_)))
    exact ⟨rfl, ⟨hb2, h.mem, fun x hx => by have := hlt x hx; omega⟩, (Stp.quiet q1).trans ⟨on.mono fun x _ e => e ▸ h.mem, fun x e => .inl e⟩⟩
theorem tack_c (w : World) (F : Nat → Prop) (b : Nat) (S : SS) (n : Int) (h : IsT w F b S) (hk : S.ok) :
    callC Try.prog 15 #[.pointer (some ⟨b, 0, none⟩), .int .i64 n] (fun (r : Int) => .int .i64 r) w fun r w' => r = S.err n ∧ IsT w' F b (S.ack n) ∧ Stp F w F w' := by
  obtain ⟨k0, k1, k2, k3, k4⟩ := hk
  refine D15 _ _ w _ ?_
  unfold F15
  refine jn.mk (fun c w' => c = decide (n < 0 ∨ S.N < n ∨ S.B + S.W < n) ∧ Quiet w w') ?_ ?_
  · show tk w _
    unfold tk
    have qd : Quiet w w.drew := Only.drew _ _
    have hb := h.blk.keepQ qd
    refine ⟨fun hc => ⟨fun _ => ⟨?_, qd⟩, fun hc => (by cases hc)⟩, fun hc => nn_ (hb.ld rfl ⟨fun hc2 => ⟨?_, qd⟩, fun hc2 => nn_ (hb.ld rfl (nn_ (hb.ld rfl ⟨?_, qd⟩)))⟩)⟩
    · have : n < 0 := by simpa using hc
      simp [this]
    · have : S.N < n := by simpa using hc2
      simp [this]
    · have h1 : ¬ n < 0 := by simpa using hc
      have h2 : ¬ S.N < n := by simpa using hc2
      rw [w64 (by omega) (by omega)]
      simp [h1, h2]
  rintro c w1 ⟨rfl, q1⟩
  unfold SS.err SS.ack
  refine ⟨fun hc => ?_, fun hc => ?_⟩
  · have := of_decide_eq_true hc
    rw [if_pos this, if_pos this]
    exact ⟨rfl, h.keepQ q1, Stp.quiet q1⟩
  · have := of_decide_eq_false hc
    rw [if_neg this, if_neg this]
    have hb := h.blk.keepQ q1
    have hlt := (h.keepQ q1).lt
    refine jn.in_ (nn_ (hb.ld rfl ⟨fun hc => nn_ (hb.st (by simp) fun w2 hb2 on s2 => ?_), fun hc => ?_⟩))
    · have e : max S.B n = n := by simp at hc; omega
      rw [e]
      exact ⟨rfl, ⟨hb2, h.mem, fun x hx => by have := hlt x hx; omega⟩, (Stp.quiet q1).trans ⟨on.mono fun x _ e => e ▸ h.mem, fun x e => .inl e⟩⟩
    · have e : max S.B n = S.B := by simp at hc; omega
      rw [e]
      exact ⟨rfl, h.keepQ q1, Stp.quiet q1⟩

theorem frames_c (w : World) (F : Nat → Prop) (b : Nat) (S : SS) (h : IsS w F b S) (hk : S.ok) :
    callC Try.prog 17 #[.pointer (some ⟨b, 0, none⟩)] Sl.v w fun r w' => ∃ G, OwnF w' G 3 1 r (S.frames.flatMap ci) ∧ Fresh w w' G := by
  have hk' := hk
  obtain ⟨k0, k1, k2, k3, k4⟩ := hk
  refine D17 _ w _ ?_
  unfold F17
  refine jn.mk (fun (c : Int × Int) w' => c = (min S.W (S.N - S.B), 0) ∧ Quiet w w') ?_ ?_
  · show tk w _
    unfold tk
    have qd : Quiet w w.drew := Only.drew _ _
    have hb := h.blk.keepQ qd
    refine nn_ (hb.ld rfl ((left_c _ F b S (h.keepQ qd) hk').use ?_))
    rintro r w2 ⟨rfl, q2⟩
    exact ⟨(hb.keepQ q2).ld0' rfl, rfl, qd.tr q2⟩
  rintro c w3 ⟨rfl, q3⟩
  dsimp only
  refine ⟨fun (c : Sl × Int) w' => 0 ≤ c.2 ∧ c.2 ≤ min S.W (S.N - S.B) ∧ ∃ G, OwnF w' G 3 1 c.1 ((seqI S.B c.2.toNat).flatMap ci) ∧ Fresh w w' G, fun c _ => (min S.W (S.N - S.B) - c.2).toNat, ⟨by simp, by dsimp only; omega, _, OwnF.nil _ _ _ _, (Fresh.none w).keep q3⟩, ?_⟩
  rintro ⟨out, i⟩ w4 ⟨i0, i1, G, ho, hf⟩
  dsimp only at i0 i1 ho ⊢
  refine ⟨fun hi => ?_, fun hi => ?_⟩
  · have hlt : i < min S.W (S.N - S.B) := by simpa using hi
    have hb := h.blk.keepQ hf.q
    have hol := (ho.rd ci1 (by decide)).len
    rw [seqI_len] at hol
    refine nn_ (hb.ld rfl ?_)
    refine OwnF.push ap22 ho rfl rfl (by unfold maxLen; omega) (by omega) fun r w6 G' ho' _ st' => ?_
    rw [w64 (x := S.B + i) (by omega) (by omega)] at ho'
    rw [w64 (by omega) (by omega)]
    refine ⟨⟨by (try dsimp only); omega, by (try dsimp only); omega, G', ?_, hf.stp st'⟩, by (try dsimp only); omega⟩
    show OwnF w6 G' 3 1 r ((seqI S.B (i + 1).toNat).flatMap ci)
    rw [toNat_succ i0, seqI_snoc, show ((i.toNat : Nat) : Int) = i by omega]
    simpa [ci] using ho'
  · have e : i = min S.W (S.N - S.B) := by simp at hi; omega
    subst e
    exact ⟨G, ho, hf⟩
theorem tframes_c (w : World) (F : Nat → Prop) (b : Nat) (S : SS) (h : IsT w F b S) (hk : S.ok) :
    callC Try.prog 18 #[.pointer (some ⟨b, 0, none⟩)] Sl.v w fun r w' => ∃ G, OwnF w' G 3 1 r (S.frames.flatMap ci) ∧ Fresh w w' G := by
  obtain ⟨k0, k1, k2, k3, k4⟩ := hk
  refine D18 _ w _ ?_
  unfold F18
  refine nn_ (h.blk.ld rfl ?_)
  refine ⟨fun (c : Sl × Int) w' => S.B ≤ c.2 ∧ c.2 - S.B ≤ min S.W (S.N - S.B) ∧ ∃ G, OwnF w' G 3 1 c.1 ((seqI S.B (c.2 - S.B).toNat).flatMap ci) ∧ Fresh w w' G, fun c _ => (min S.W (S.N - S.B) - (c.2 - S.B)).toNat, ⟨by simp, by dsimp only; omega, _, ?_, Fresh.none w⟩, ?_⟩
  · dsimp only
    rw [Int.sub_self]
    exact OwnF.nil w _ _ _
  rintro ⟨out, i⟩ w4 ⟨i0, i1, G, ho, hf⟩
  dsimp only at i0 i1 ho ⊢
  refine jn.mk (fun c w' => c = decide (i - S.B < min S.W (S.N - S.B)) ∧ Quiet w4 w') ?_ ?_
  · show tk w4 _
    unfold tk
    have qd : Quiet w4 w4.drew := Only.drew _ _
    have hb := h.blk.keepQ (hf.q.tr qd)
    refine nn_ (hb.ld rfl ⟨fun hc => nn_ (hb.ld rfl (nn_ (hb.ld rfl ⟨?_, qd⟩))), fun hc => ⟨?_, qd⟩⟩)
    · have : i < S.N := by simpa using hc
      rw [w64 (by omega) (by omega)]
      rw [Bool.eq_iff_iff, decide_eq_true_iff, decide_eq_true_iff]
      omega
    · have : ¬ i < S.N := by simpa using hc
      have : ¬ (i - S.B < min S.W (S.N - S.B)) := by omega
      simp [this]
  rintro c w5 ⟨rfl, q5⟩
  have ho5 := ho.keepQ q5
  have hf5 := hf.keep q5
  refine ⟨fun hi => ?_, fun hi => ?_⟩
  · have hlt := of_decide_eq_true hi
    have hol := (ho.rd ci1 (by decide)).len
    rw [seqI_len] at hol
    refine OwnF.push ap22 ho5 rfl rfl (by unfold maxLen; omega) (by omega) fun r w6 G' ho' _ st' => ?_
    rw [w64 (by omega) (by omega)]
    refine ⟨⟨by (try dsimp only); omega, by (try dsimp only); omega, G', ?_, hf5.stp st'⟩, by (try dsimp only); omega⟩
    show OwnF w6 G' 3 1 r ((seqI S.B (i + 1 - S.B).toNat).flatMap ci)
    rw [show (i + 1 - S.B).toNat = (i - S.B).toNat + 1 by omega, seqI_snoc, show S.B + (((i - S.B).toNat : Nat) : Int) = i by omega]
    simpa [ci] using ho'
  · have e := of_decide_eq_false hi
    have e2 : (i - S.B).toNat = (min S.W (S.N - S.B)).toNat := by omega
    rw [e2] at ho5
    exact ⟨G, ho5, hf5⟩
theorem scopy_c (w : World) (F : Nat → Prop) (b : Nat) (S : SS) (h : IsS w F b S) :
    callC Try.prog 24 #[.pointer (some ⟨b, 0, none⟩)] (fun (r : Option Addr) => .pointer r) w fun r w' => ∃ c G, r = some ⟨c, 0, none⟩ ∧ IsS w' G c S ∧ Fresh w w' G := by
  refine D24 _ w _ ?_
  unfold F24
  refine nn_ (h.blk.ld rfl (h.blk.ld rfl (h.blk.ld rfl ?_)))
  refine nwL fun b5 w1 hb1 q1 g1 _ l1 => hb1.st0 (by simp) fun w2 hb2 on s2 => ?_
  refine ⟨b5, fun x => x = b5, rfl, ⟨hb2, rfl, fun x e => by omega⟩, (q1.trans on).mono fun x hx e => ?_, fun x e => by omega⟩
  rcases e with e | e
  · exact e
  · omega

theorem ints_c (w : World) (s t : Sl) (a b : List Int) (ha : Rd w ci 1 s a) (hb : Rd w ci 1 t b) (hl : a.length ≤ 1000000) :
    callC Try.prog 16 #[s.v, t.v] (fun (r : Bool) => .bool r) w fun r w' => r = decide (a = b) ∧ Quiet w w' := by
  have hsl := ha.len
  have htl := hb.len
  refine D16 _ _ w _ ?_
  unfold F16
  refine ⟨fun hc => ?_, fun hc => ?_⟩
  · have : a ≠ b := fun e => by simp [hsl, htl, e] at hc
    simp [this, Only.refl]
  have hlen : a.length = b.length := by rw [hsl, htl] at hc; simp at hc; omega
  refine ⟨fun i w' => 0 ≤ i ∧ i ≤ a.length ∧ a.take i.toNat = b.take i.toNat ∧ Quiet w w', fun i _ => (a.length - i).toNat, ⟨by omega, by omega, by simp, Only.refl _ _⟩, ?_⟩
  rintro i w1 ⟨i0, i1, he, q1⟩
  refine ⟨fun hi => ?_, fun hi => ?_⟩
  · have hlt : i < a.length := by simpa [hsl] using hi
    obtain ⟨x, hx⟩ := getq i0 hlt
    obtain ⟨y, hy⟩ := getq (l := b) i0 (by omega)
    refine jn.mk (fun c w' => c = !decide (x = y) ∧ Quiet w w') ?_ ?_
    · show tk w1 _
      unfold tk
      have q2 : Quiet w w1.drew := q1.tr (Only.drew _ _)
      exact (ha.keepQ q2).ixx i0 hx fun p hat _ => hat.ld0 rfl ((hb.keepQ q2).ixx i0 hy fun p' hat' _ => hat'.ld0 rfl ⟨rfl, q2⟩)
    · rintro c w3 ⟨rfl, q3⟩
      refine ⟨fun hc => ?_, fun hc => ?_⟩
      · have hne : x ≠ y := by simpa using hc
        have : a ≠ b := fun e => by rw [e, hy] at hx; injection hx with hx; exact hne hx.symm
        simp [this, q3]
      · have heq : x = y := by simpa using hc
        rw [w64 (by omega) (by omega)]
        refine ⟨⟨by omega, by omega, ?_, q3⟩, by (try dsimp only); omega⟩
        rw [toNat_succ i0, take_next hx, take_next hy, he, heq]
  · have hge : a.length ≤ i.toNat := by simp [hsl] at hi; omega
    rw [List.take_of_length_le hge, List.take_of_length_le (by omega)] at he
    simp [he, q1]

/-- the element that pick picks -/
def pickP (l : List Int) (n : Int) : Int := l.getD (if n.tmod l.length < 0 then n.tmod l.length + l.length else n.tmod l.length).toNat 0
theorem pick_idx {n m : Int} (hm : 0 < m) : 0 ≤ (if n.tmod m < 0 then n.tmod m + m else n.tmod m) ∧ (if n.tmod m < 0 then n.tmod m + m else n.tmod m) < m := by
  have h1 := Int.tmod_lt_of_pos n hm
  have h2 : -m < n.tmod m := by
    have := Int.tmod_lt_of_pos (-n) hm
    rw [Int.neg_tmod] at this
    omega
  split <;> omega
theorem pickP_mem {l : List Int} (n : Int) (h : l ≠ []) : pickP l n ∈ l := by
  have hl : 0 < l.length := List.length_pos_iff.2 h
  obtain ⟨h1, h2⟩ := pick_idx (n := n) (m := (l.length : Int)) (by omega)
  unfold pickP
  rw [List.getD_eq_getElem?_getD, List.getElem?_eq_getElem (by omega)]
  exact List.getElem_mem _
theorem pick_c (w : World) (s : Sl) (l : List Int) (n : Int) (h : Rd w ci 1 s l) (hne : l ≠ []) (hl : l.length ≤ 1000000) :
    callC Try.prog 23 #[s.v, .int .i64 n] (fun (r : Int) => .int .i64 r) w fun r w' => r = pickP l n ∧ w = w' := by
  have hsl := h.len
  have hpos : 0 < l.length := List.length_pos_iff.2 hne
  obtain ⟨h1, h2⟩ := pick_idx (n := n) (m := (l.length : Int)) (by omega)
  refine D23 _ _ w _ ?_
  unfold F23
  rw [hsl]
  refine ⟨by omega, ?_⟩
  have hb : -(l.length : Int) < n.tmod l.length := by
    have := Int.tmod_lt_of_pos (-n) (show (0 : Int) < l.length by omega)
    rw [Int.neg_tmod] at this
    omega
  refine jn.mk (fun c w' => c = (if n.tmod l.length < 0 then n.tmod l.length + l.length else n.tmod l.length) ∧ w = w') ⟨fun hc => ⟨?_, rfl⟩, fun hc => ⟨?_, rfl⟩⟩ ?_
  · have : n.tmod l.length < 0 := by simpa using hc
    rw [if_pos this, w64 (by omega) (by omega)]
  · have : ¬ n.tmod l.length < 0 := by simpa using hc
    rw [if_neg this]
  rintro c w1 ⟨rfl, rfl⟩
  refine h.ix h1 h2 fun p x hx hat _ => hat.ld0 rfl ⟨?_, rfl⟩
  unfold pickP
  rw [List.getD_eq_getElem?_getD, hx]
  rfl
end Go.Proofs.Ytaogjbmgobfdoaa
