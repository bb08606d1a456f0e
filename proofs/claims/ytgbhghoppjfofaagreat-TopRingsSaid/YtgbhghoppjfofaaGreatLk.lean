import Derived.Test.YtgbhghoppjfofaaGreatTd
namespace Go.Proofs.YtgbhghoppjfofaaGreat
open Go.Dec Go.RowKit
set_option maxHeartbeats 400000

/-! ### numbers one after the other -/
def seqI (a : Int) : Nat → List Int
  | 0 => []
  | n + 1 => a :: seqI (a + 1) n
theorem seqI_len : ∀ (n : Nat) (a : Int), (seqI a n).length = n
  | 0, a => rfl
  | n + 1, a => by simp [seqI, seqI_len n]
theorem seqI_snoc : ∀ (n : Nat) (a : Int), seqI a (n + 1) = seqI a n ++ [a + n]
  | 0, a => by simp [seqI]
  | n + 1, a => by
    have e : a + 1 + (n : Int) = a + ((n + 1 : Nat) : Int) := by omega
    rw [seqI, seqI_snoc n (a + 1), e]
    rfl
theorem seqI_get : ∀ {n : Nat} {a : Int} {i : Nat}, i < n → (seqI a n)[i]? = some (a + i)
  | n + 1, a, 0, _ => by simp [seqI]
  | n + 1, a, i + 1, h => by
    have e : a + 1 + (i : Int) = a + ((i + 1 : Nat) : Int) := by omega
    rw [seqI, List.getElem?_cons_succ, seqI_get (by omega), e]
theorem mem_seqI {n : Nat} {a x : Int} : x ∈ seqI a n ↔ a ≤ x ∧ x < a + n := by
  induction n generalizing a with
  | zero => simp [seqI]
  | succ n ih =>
    rw [seqI, List.mem_cons, ih]
    omega

/-! ### senders -/
structure SS where
  W : Int
  N : Int
  B : Int
structure SS.ok (S : SS) : Prop where
  w0 : 1 ≤ S.W
  w1 : S.W ≤ 64
  b0 : 0 ≤ S.B
  b1 : S.B ≤ S.N
  n1 : S.N ≤ 900
def SS.send (S : SS) : SS := { S with N := S.N + 1 }
def SS.ack (S : SS) (n : Int) : SS := if n < 0 ∨ S.N < n ∨ S.B + S.W < n then S else { S with B := max S.B n }
def SS.err (S : SS) (n : Int) : Int := if n < 0 ∨ S.N < n ∨ S.B + S.W < n then 1 else 0
def SS.frames (S : SS) : List Int := seqI S.B (min S.W (S.N - S.B)).toNat
theorem SS.ok.ack {S : SS} (h : S.ok) (n : Int) : (S.ack n).ok := by
  obtain ⟨h0, h1, h2, h3, h4⟩ := h
  unfold SS.ack
  split
  · exact ⟨h0, h1, h2, h3, h4⟩
  · exact ⟨h0, h1, by dsimp only; omega, by dsimp only; omega, h4⟩
theorem SS.frames_len (S : SS) : S.frames.length = (min S.W (S.N - S.B)).toNat := seqI_len _ _

structure IsS (w : World) (F : Nat → Prop) (b : Nat) (S : SS) : Prop where
  blk : Blk w b 77 #[.int .i64 S.W, .int .i64 S.N, .int .i64 S.B]
  mem : F b
  lt : ∀ b, F b → b < w.heap.size
theorem IsS.keep {w w' : World} {F G : Nat → Prop} {b : Nat} {S : SS} (h : IsS w F b S) (ho : Only G w w') (hd : ∀ b, F b → ¬ G b) : IsS w' F b S := ⟨h.blk.keep ho (hd _ h.mem), h.mem, fun b hb => Nat.lt_of_lt_of_le (h.lt b hb) ho.size⟩
theorem IsS.keepQ {w w' : World} {F : Nat → Prop} {b : Nat} {S : SS} (h : IsS w F b S) (ho : Quiet w w') : IsS w' F b S := h.keep ho fun _ _ => id
def win (n : Int) : Prop := 1 ≤ n ∧ n ≤ 64
instance (n : Int) : Decidable (win n) := by unfold win; infer_instance
theorem news_c (w : World) (n : Int) : callC Tryz.prog 6 #[.int .i64 n] (fun (r : Option Addr × Int) => .tuple #[.pointer r.1, .int .i64 r.2]) w fun r w' =>
    (win n → ∃ b F, r = (some ⟨b, 0, none⟩, 0) ∧ IsS w' F b ⟨n, 0, 0⟩ ∧ Fresh w w' F) ∧ (¬ win n → r = (none, 1)) ∧ Quiet w w' := by
  refine D6 _ w _ ?_
  unfold F6
  refine ⟨fun hc => ?_, fun hc => ?_⟩
  · have : ¬ win n := by unfold win; simp at hc; omega
    exact ⟨fun h => absurd h this, fun _ => rfl, Only.refl _ _⟩
  · have : win n := by unfold win; simp at hc; omega
    refine nwL fun b w1 hb q g _ l => ⟨fun _ => ⟨b, fun x => x = b, rfl, ⟨hb, rfl, fun x e => by omega⟩, q, fun x e => by omega⟩, fun h => absurd this h, q⟩
theorem left_c (w : World) (F : Nat → Prop) (b : Nat) (S : SS) (h : IsS w F b S) (hk : S.ok) :
    callC Tryz.prog 12 #[.pointer (some ⟨b, 0, none⟩)] (fun (r : Int) => .int .i64 r) w fun r w' => r = S.N - S.B ∧ Quiet w w' := by
  obtain ⟨k0, k1, k2, k3, k4⟩ := hk
  refine D12 _ w _ ?_
  unfold F12
  refine jn.in_ ?_
  show tk w _
  unfold tk
  have qd : Quiet w w.drew := Only.drew _ _
  have hb := h.blk.keepQ qd
  refine nn_ (hb.ld rfl (nn_ (hb.ld rfl ⟨?_, qd⟩)))
  rw [w64 (by omega) (by omega)]
theorem send_c (w : World) (F : Nat → Prop) (b : Nat) (S : SS) (h : IsS w F b S) (hk : S.ok) :
    callC Tryz.prog 8 #[.pointer (some ⟨b, 0, none⟩)] (fun (r : Int × Int) => .tuple #[.int .i64 r.1, .int .i64 r.2]) w fun r w' => r = (S.N, 0) ∧ IsS w' F b S.send ∧ Stp F w F w' := by
  refine D8 _ w _ ?_
  unfold F8
  refine (left_c w F b S h hk).use ?_
  rintro r w1 ⟨rfl, q1⟩
  obtain ⟨k0, k1, k2, k3, k4⟩ := hk
  refine ⟨fun hc => ?_, fun _ => ?_⟩
  · have : S.N - S.B = 1000 := by simpa using hc
    omega
  have hb := h.blk.keepQ q1
  refine nn_ (hb.ld rfl (nn_ (hb.ld rfl (nn_ (hb.st (by simp) fun w2 hb2 on s2 => ?_)))))
  rw [w64 (by omega) (by omega)] at hb2
  have hlt := (h.keepQ q1).lt
  exact ⟨rfl, ⟨hb2, h.mem, fun x hx => by have := hlt x hx; omega⟩, (Stp.quiet q1).trans ⟨on.mono fun x _ e => e ▸ h.mem, fun x e => .inl e⟩⟩
theorem ack_c (w : World) (F : Nat → Prop) (b : Nat) (S : SS) (n : Int) (h : IsS w F b S) (hk : S.ok) :
    callC Tryz.prog 24 #[.pointer (some ⟨b, 0, none⟩), .int .i64 n] (fun (r : Int) => .int .i64 r) w fun r w' => r = S.err n ∧ IsS w' F b (S.ack n) ∧ Stp F w F w' := by
  obtain ⟨k0, k1, k2, k3, k4⟩ := hk
  refine D24 _ _ w _ ?_
  unfold F24
  refine jn.mk (fun c w' => c = decide (n < 0 ∨ S.N < n ∨ S.B + S.W < n) ∧ Quiet w w') ?_ ?_
  · show tk w _
    unfold tk
    have qd : Quiet w w.drew := Only.drew _ _
    have hb := h.blk.keepQ qd
    refine ⟨fun hc => ⟨?_, qd⟩, fun hc => nn_ (hb.ld rfl ⟨fun hc2 => ⟨?_, qd⟩, fun hc2 => nn_ (hb.ld rfl (nn_ (hb.ld rfl ⟨?_, qd⟩)))⟩)⟩
    · have : n < 0 := by simpa using hc
      simp [this]
    · have : S.N < n := by simpa using hc2
      simp [this]
    · have h1 : ¬ n < 0 := by simpa using hc
      have h2 : ¬ S.N < n := by simpa using hc2
      rw [w64 (by omega) (by omega)]
      simp [h1, h2]
  rintro c w1 ⟨rfl, q1⟩
  unfold SS.err SS.ack
  refine ⟨fun hc => ?_, fun hc => ?_⟩
  · have := of_decide_eq_true hc
    rw [if_pos this, if_pos this]
    exact ⟨rfl, h.keepQ q1, Stp.quiet q1⟩
  · have := of_decide_eq_false hc
    rw [if_neg this, if_neg this]
    have hb := h.blk.keepQ q1
    have hlt := (h.keepQ q1).lt
    refine nn_ (hb.ld rfl (nn_ (hb.st (by simp) fun w2 hb2 on s2 => ?_)))
    exact ⟨rfl, ⟨hb2, h.mem, fun x hx => by have := hlt x hx; omega⟩, (Stp.quiet q1).trans ⟨on.mono fun x _ e => e ▸ h.mem, fun x e => .inl e⟩⟩
/-! ### receivers -/
structure RS where
  W : Int
  R : Int
  H : List Bool
structure RS.ok (S : RS) : Prop where
  w0 : 1 ≤ S.W
  w1 : S.W ≤ 64
  r0 : 0 ≤ S.R
  r1 : S.R ≤ 1000000
  h : (S.H.length : Int) = S.W
def lead : List Bool → Nat
  | [] => 0
  | b :: r => if b = true then lead r + 1 else 0
theorem lead_le : ∀ (l : List Bool), lead l ≤ l.length
  | [] => Nat.le_refl _
  | b :: r => by
    have := lead_le r
    unfold lead
    split <;> simp <;> omega
theorem lead_app : ∀ (l : List Bool), lead (l ++ [false]) = lead l
  | [] => rfl
  | b :: r => by
    rw [List.cons_append]
    unfold lead
    rw [lead_app r]
def RS.shift (S : RS) : RS := { S with R := S.R + 1, H := S.H.drop 1 ++ [false] }
def RS.fin (S : RS) : RS := { S with R := S.R + lead S.H, H := S.H.drop (lead S.H) ++ List.replicate (lead S.H) false }
def RS.mark (S : RS) (f : Int) : RS := { S with H := S.H.set (f - S.R).toNat true }
def RS.out (S : RS) (f : Int) : Prop := f < S.R ∨ S.W ≤ f - S.R
instance (S : RS) (f : Int) : Decidable (S.out f) := by unfold RS.out; infer_instance
def RS.take (S : RS) (f : Int) : RS := if S.out f then S else (S.mark f).fin
def RS.got (S : RS) (f : Int) : List Int := if S.out f then [] else seqI S.R (lead (S.mark f).H)
theorem RS.ok.mark {S : RS} (h : S.ok) (f : Int) : (S.mark f).ok := ⟨h.w0, h.w1, h.r0, h.r1, by simp [RS.mark, h.h]⟩
theorem RS.ok.shift {S : RS} (h : S.ok) (hr : S.R + 1 ≤ 1000000) : S.shift.ok := ⟨h.w0, h.w1, by have := h.r0; show 0 ≤ S.R + 1; omega, hr, by have := h.h; have := h.w0; simp [RS.shift]; omega⟩
theorem RS.lead_shift {S : RS} {r : List Bool} (h : S.H = true :: r) : lead S.H = lead S.shift.H + 1 := by
  unfold RS.shift
  dsimp only
  rw [h]
  simp [lead, lead_app]
theorem RS.fin_shift {S : RS} {r : List Bool} (h : S.H = true :: r) : S.shift.fin = S.fin := by
  have h1 := RS.lead_shift h
  unfold RS.fin
  rw [h1]
  have hle : lead S.shift.H ≤ r.length := by
    have := lead_le S.H
    rw [h1, h] at this
    simp at this
    exact this
  generalize hk : lead S.shift.H = k at *
  have e1 : S.shift.R + (k : Int) = S.R + ((k + 1 : Nat) : Int) := by unfold RS.shift; dsimp only; omega
  have e2 : S.shift.H.drop k ++ List.replicate k false = S.H.drop (k + 1) ++ List.replicate (k + 1) false := by
    unfold RS.shift
    dsimp only
    rw [h]
    simp only [List.drop_succ_cons, List.drop_zero]
    rw [List.drop_append_of_le_length hle, List.append_assoc, List.replicate_succ]
    rfl
  have e3 : S.shift.W = S.W := rfl
  rw [e1, e2, e3]
theorem RS.ok.head {S : RS} (h : S.ok) : ∃ b r, S.H = b :: r := by
  have h1 := h.h
  have h2 := h.w0
  cases e : S.H with
  | nil => rw [e] at h1; simp at h1; omega
  | cons b r => exact ⟨b, r, rfl⟩
theorem RS.fin_done {S : RS} {r : List Bool} (h : S.H = false :: r) : lead S.H = 0 ∧ S.fin = S := by
  have h0 : lead S.H = 0 := by rw [h]; rfl
  refine ⟨h0, ?_⟩
  unfold RS.fin
  rw [h0]
  simp
theorem RS.ok.take {S : RS} (h : S.ok) (f : Int) (hr : S.R + 64 ≤ 1000000) : (S.take f).ok := by
  unfold RS.take
  split
  · exact h
  · have hm := h.mark f
    have hl := lead_le (S.mark f).H
    have := hm.h
    have := hm.w1
    have := hm.r0
    have e : (S.mark f).R = S.R := rfl
    refine ⟨hm.w0, hm.w1, ?_, ?_, ?_⟩
    · show 0 ≤ (S.mark f).R + _
      omega
    · show (S.mark f).R + _ ≤ 1000000
      omega
    · unfold RS.fin
      simp only [List.length_append, List.length_drop, List.length_replicate]
      omega
theorem RS.take_R {S : RS} (h : S.ok) (f : Int) : S.R ≤ (S.take f).R ∧ (S.take f).R ≤ S.R + 64 := by
  unfold RS.take
  split
  · omega
  · have hm := h.mark f
    have hl := lead_le (S.mark f).H
    have := hm.h
    have := hm.w1
    have e : (S.mark f).fin.R = S.R + lead (S.mark f).H := rfl
    rw [e]
    omega

/-- what the map of a receiver holds -/
def mOf (S : RS) : Int → Option Bool := fun x => if S.R ≤ x ∧ x < S.R + S.W ∧ S.H.getD (x - S.R).toNat false = true then some true else none
theorem mOf_mark {S : RS} {f : Int} (hk : S.ok) (h : ¬ S.out f) : mset (mOf S) f true = mOf (S.mark f) := by
  unfold RS.out at h
  have hh := hk.h
  funext x
  by_cases e : x = f
  · subst e
    rw [mset_same]
    unfold mOf RS.mark
    dsimp only
    rw [if_pos]
    refine ⟨by omega, by omega, ?_⟩
    rw [List.getD_eq_getElem?_getD, List.getElem?_set_self (by omega)]
    rfl
  · rw [mset_ne _ _ e]
    unfold mOf RS.mark
    dsimp only
    by_cases h1 : S.R ≤ x ∧ x < S.R + S.W
    · have : (S.H.set (f - S.R).toNat true).getD (x - S.R).toNat false = S.H.getD (x - S.R).toNat false := by
        rw [List.getD_eq_getElem?_getD, List.getD_eq_getElem?_getD, List.getElem?_set_ne (by omega)]
      rw [this]
    · rw [if_neg (fun e => h1 ⟨e.1, e.2.1⟩), if_neg (fun e => h1 ⟨e.1, e.2.1⟩)]
theorem mOf_shift {S : RS} (hk : S.ok) : mdel (mOf S) S.R = mOf S.shift := by
  have hh := hk.h
  have hw := hk.w0
  funext x
  by_cases e : x = S.R
  · subst e
    rw [mdel_same]
    unfold mOf RS.shift
    dsimp only
    rw [if_neg]
    omega
  · rw [mdel_ne _ e]
    unfold mOf RS.shift
    dsimp only
    by_cases h1 : S.R + 1 ≤ x ∧ x < S.R + S.W
    · have : (S.H.drop 1 ++ [false]).getD (x - (S.R + 1)).toNat false = S.H.getD (x - S.R).toNat false := by
        rw [List.getD_eq_getElem?_getD, List.getD_eq_getElem?_getD, List.getElem?_append_left (by rw [List.length_drop]; omega), List.getElem?_drop]
        congr 2
        omega
      rw [this]
      have c1 : (S.R ≤ x ∧ x < S.R + S.W ∧ S.H.getD (x - S.R).toNat false = true) ↔ (S.R + 1 ≤ x ∧ x < S.R + 1 + S.W ∧ S.H.getD (x - S.R).toNat false = true) := by
        constructor <;> rintro ⟨a, b, c⟩ <;> exact ⟨by omega, by omega, c⟩
      by_cases h2 : (S.R ≤ x ∧ x < S.R + S.W ∧ S.H.getD (x - S.R).toNat false = true)
      · rw [if_pos h2, if_pos (c1.1 h2)]
      · rw [if_neg h2, if_neg (fun e => h2 (c1.2 e))]
    · rw [if_neg (fun e => by omega)]
      by_cases h2 : x = S.R + S.W
      · subst h2
        rw [if_neg]
        rintro ⟨_, _, c⟩
        have : (S.R + S.W - (S.R + 1)).toNat = (S.H.drop 1).length := by rw [List.length_drop]; omega
        rw [List.getD_eq_getElem?_getD, this, List.getElem?_append_right (Nat.le_refl _), Nat.sub_self] at c
        simp at c
      · rw [if_neg (fun e => by omega)]
theorem mOf_head {S : RS} (hk : S.ok) {b : Bool} {r : List Bool} (h : S.H = b :: r) : (mOf S S.R).getD false = b := by
  have hw := hk.w0
  unfold mOf
  rw [Int.sub_self, h]
  cases b
  · rw [if_neg (fun e => by simp at e)]
    rfl
  · rw [if_pos ⟨by omega, by omega, by simp⟩]
    rfl

structure IsR (w : World) (F : Nat → Prop) (b : Nat) (S : RS) : Prop where
  ex : ∃ mb, Blk w b 80 #[.int .i64 S.W, .int .i64 S.R, .map (some mb)] ∧ Mp (Value.int .i64) Value.bool w mb (mOf S) ∧ F b ∧ F mb
  lt : ∀ b, F b → b < w.heap.size
theorem IsR.keep {w w' : World} {F G : Nat → Prop} {b : Nat} {S : RS} (h : IsR w F b S) (ho : Only G w w') (hd : ∀ b, F b → ¬ G b) : IsR w' F b S := by
  obtain ⟨mb, h1, h2, h3, h4⟩ := h.ex
  exact ⟨⟨mb, h1.keep ho (hd _ h3), h2.keep ho (hd _ h4), h3, h4⟩, fun b hb => Nat.lt_of_lt_of_le (h.lt b hb) ho.size⟩
theorem IsR.keepQ {w w' : World} {F : Nat → Prop} {b : Nat} {S : RS} (h : IsR w F b S) (ho : Quiet w w') : IsR w' F b S := h.keep ho fun _ _ => id
def RS.new (n : Int) : RS := ⟨n, 0, List.replicate n.toNat false⟩
theorem mOf_new (n : Int) : mOf (RS.new n) = mnone := by
  funext x
  unfold mOf RS.new mnone
  dsimp only
  rw [if_neg]
  rintro ⟨_, _, c⟩
  rw [List.getD_eq_getElem?_getD, List.getElem?_replicate] at c
  split at c <;> simp at c
theorem RS.new_ok {n : Int} (h : win n) : (RS.new n).ok := by
  unfold win at h
  refine ⟨h.1, h.2, Int.le_refl _, show (0 : Int) ≤ 1000000 by decide, ?_⟩
  show ((List.replicate n.toNat false).length : Int) = n
  rw [List.length_replicate]
  omega
theorem newr_c (w : World) (n : Int) : callC Tryz.prog 7 #[.int .i64 n] (fun (r : Option Addr × Int) => .tuple #[.pointer r.1, .int .i64 r.2]) w fun r w' =>
    (win n → ∃ b F, r = (some ⟨b, 0, none⟩, 0) ∧ IsR w' F b (RS.new n) ∧ Fresh w w' F) ∧ (¬ win n → r = (none, 1)) ∧ Quiet w w' := by
  refine D7 _ w _ ?_
  unfold F7
  refine ⟨fun hc => ?_, fun hc => ?_⟩
  · have : ¬ win n := by unfold win; simp at hc; omega
    exact ⟨fun h => absurd h this, fun _ => rfl, Only.refl _ _⟩
  · have : win n := by unfold win; simp at hc; omega
    refine rn_makeMap (α := Int) (β := Bool) (ek := Value.int .i64) (ev := Value.bool) (fun _ => rfl) fun mb w1 hm q1 g1 l1 _ => ?_
    refine nwL fun b w2 hb q2 g2 s2 l2 => ?_
    have hs := q2.size
    have hs1 := q1.size
    refine ⟨fun _ => ⟨b, fun x => x = b ∨ x = mb, rfl, ⟨⟨mb, hb, by rw [mOf_new]; exact hm.keepQ q2, .inl rfl, .inr rfl⟩, ?_⟩, q1.tr q2, ?_⟩, fun h => absurd this h, q1.tr q2⟩
    · rintro x (e | e) <;> omega
    · rintro x (e | e) <;> omega
theorem take_c (w : World) (F : Nat → Prop) (b : Nat) (S : RS) (f : Int) (h : IsR w F b S) (hk : S.ok) (hr : S.R + 64 ≤ 1000000) :
    callC Tryz.prog 23 #[.pointer (some ⟨b, 0, none⟩), .int .i64 f] (fun (r : Sl × Int) => .tuple #[r.1.v, .int .i64 r.2]) w fun r w' =>
      r.2 = (S.take f).R ∧ IsR w' F b (S.take f) ∧ Stp F w F w' ∧ ∃ G, OwnF w' G 3 1 r.1 ((S.got f).flatMap ci) ∧ ∀ x, G x → w.heap.size ≤ x ∧ x < w'.heap.size := by
  have hk' := hk
  obtain ⟨e0, e1, e2, e3, e4⟩ := hk
  obtain ⟨mb, h1, h2, h3, h4⟩ := h.ex
  refine D23 _ _ w _ ?_
  unfold F23
  refine jn.mk (fun c w' => c = decide (S.out f) ∧ Quiet w w') ?_ ?_
  · show tk w _
    unfold tk
    have qd : Quiet w w.drew := Only.drew _ _
    have hb := h1.keepQ qd
    refine nn_ (hb.ld rfl ⟨fun hc => ⟨?_, qd⟩, fun hc => nn_ (hb.ld rfl (nn_ (hb.ld rfl ⟨?_, qd⟩)))⟩)
    · have : S.out f := by simp at hc; exact .inl hc
      simp [this]
    · have : ¬ f < S.R := by simpa using hc
      rw [w64 (by omega) (by omega), Bool.eq_iff_iff, decide_eq_true_iff, decide_eq_true_iff]
      unfold RS.out
      omega
  rintro c w2 ⟨rfl, q2⟩
  have b2 := h1.keepQ q2
  refine ⟨fun hc => ?_, fun hc => ?_⟩
  · have ho : S.out f := of_decide_eq_true hc
    refine jn.mk (fun (c : Sl × Int) w' => c = (Sl.nil, S.R) ∧ Quiet w w') ?_ ?_
    · show tk w2 _
      unfold tk
      exact nn_ ((b2.keepQ (Only.drew _ _)).ld rfl ⟨rfl, q2.tr (Only.drew _ _)⟩)
    · rintro c w4 ⟨rfl, q4⟩
      unfold RS.take RS.got
      rw [if_pos ho, if_pos ho]
      exact ⟨rfl, h.keepQ q4, Stp.quiet q4, _, OwnF.nil w4 (fun _ => False) _ _, fun x e => e.elim⟩
  have ho : ¬ S.out f := of_decide_eq_false hc
  refine nn_ (b2.ld (x := some mb) rfl ?_)
  refine rn_mset f true (h2.keepQ q2) uMIB kI fun w5 m5 on5 s5 => ?_
  rw [mOf_mark hk' ho] at m5
  have b5 := b2.keep on5 ((h2.keepQ q2).ne_blk b2)
  have only5 : Only F w w5 := (q2.trans on5).mono fun x _ e => e.elim False.elim fun e => e ▸ h4
  unfold RS.take RS.got
  rw [if_neg ho, if_neg ho]
  have hkm := hk'.mark f
  have hleadm := lead_le (S.mark f).H
  have hmh := hkm.h
  have hRm : (S.mark f).R = S.R := rfl
  have hWm : (S.mark f).W = S.W := rfl
  refine ⟨fun out w' => ∃ (S' : RS) (n : Nat) (G : Nat → Prop), S'.ok ∧ S'.W = S.W ∧ S'.R = S.R + n ∧ S'.fin = (S.mark f).fin ∧ n + lead S'.H = lead (S.mark f).H ∧ Blk w' b 80 #[.int .i64 S'.W, .int .i64 S'.R, .map (some mb)] ∧ Mp (Value.int .i64) Value.bool w' mb (mOf S') ∧ OwnF w' G 3 1 out ((seqI S.R n).flatMap ci) ∧ (∀ x, G x → w.heap.size ≤ x ∧ x < w'.heap.size) ∧ Only F w w',
    fun out _ => 64 - out.len, ⟨S.mark f, 0, fun _ => False, hkm, rfl, by omega, rfl, by omega, b5, m5, OwnF.nil _ _ _ _, fun x e => e.elim, only5⟩, ?_⟩
  rintro out w6 ⟨S', n, G, hk6, hW6, hR6, hfin, hld, b6, m6, o6, g6, on6⟩
  obtain ⟨hb0, hr0, hH⟩ := hk6.head
  refine jn.mk (fun c w' => c = hb0 ∧ Quiet w6 w') ?_ ?_
  · show tk w6 _
    unfold tk
    have qd : Quiet w6 w6.drew := Only.drew _ _
    have hb := b6.keepQ qd
    refine nn_ (hb.ld (x := some mb) rfl (nn_ (hb.ld rfl ?_)))
    exact rn_look1 (z := false) S'.R (m6.keepQ qd) uMIB kI zvB hb0 (by rw [mOf_head hk6 hH]) ⟨rfl, qd⟩
  rintro c w9 ⟨rfl, q9⟩
  have b9 := b6.keepQ q9
  have m9 := m6.keepQ q9
  have o9 := o6.keepQ q9
  have hsz9 := q9.size
  have hszw := on6.size
  refine ⟨fun hc => ?_, fun hc => ?_⟩
  · subst hc
    have hls := RS.lead_shift hH
    have hml := lead_le S'.H
    have hkh := hk6.h
    have hw1 := hk6.w1
    have hk7 := hk6.shift (by omega)
    refine jn.mk (fun _ w' => Blk w' b 80 #[.int .i64 S'.W, .int .i64 S'.R, .map (some mb)] ∧ Mp (Value.int .i64) Value.bool w' mb (mOf S'.shift) ∧ OwnF w' G 3 1 out ((seqI S.R n).flatMap ci) ∧ Only F w w' ∧ w9.heap.size ≤ w'.heap.size) ?_ ?_
    · show tk w9 _
      unfold tk
      have qd : Quiet w9 w9.drew := Only.drew _ _
      have hb := b9.keepQ qd
      refine nn_ (hb.ld (x := some mb) rfl (nn_ (hb.ld rfl ?_)))
      refine rn_mdel rfl S'.R (m9.keepQ qd) uMIB kI fun w11 m11 on11 s11 => ?_
      rw [mOf_shift hk6] at m11
      have hne := (m9.keepQ qd).ne_blk hb
      refine ⟨hb.keep on11 hne, m11, ⟨(o9.keepQ qd).own.keep on11 fun x hx e => (m9.keepQ qd).ne_own (o9.keepQ qd).own (by rw [hx, e]), o9.blk⟩, ?_, ?_⟩
      · exact (on6.then_ (q9.tr qd) fun x _ e => e.elim).then_ on11 fun x _ e => e ▸ h4
      · rw [s11]
        exact qd.size
    rintro _ w12 ⟨b12, m12, o12, on12, s12⟩
    have hol := (o12.rd ci1 (by decide)).len
    rw [seqI_len] at hol
    refine nn_ (b12.ld rfl ?_)
    refine OwnF.push apI o12 rfl rfl (by unfold maxLen; omega) (by omega) fun r w14 G' o14 l14 st14 => ?_
    have hGb : ∀ x, x < w.heap.size → ¬ G x := fun x hx e => by have := (g6 x e).1; omega
    have hbw : b < w.heap.size := h.lt b h3
    have hmw : mb < w.heap.size := h.lt mb h4
    have b14 := b12.keep st14.only (hGb _ hbw)
    have m14 := m12.keep st14.only (hGb _ hmw)
    have s14 := st14.only.size
    have on14 : Only F w w14 := on12.then_ st14.only fun x hx e => absurd e (hGb x hx)
    have g14 : ∀ x, G' x → w.heap.size ≤ x ∧ x < w14.heap.size := fun x e => by
      have := on12.size
      rcases st14.sub x e with e | e
      · have := g6 x e
        omega
      · omega
    refine nn_ (b14.ld rfl (nn_ (b14.st (by simp) fun w15 b15 on15 s15 => ?_)))
    rw [w64 (by omega) (by omega)] at b15
    refine ⟨⟨S'.shift, n + 1, G', hk7, hW6, by show S'.R + 1 = _; omega, (RS.fin_shift hH).trans hfin, by omega, b15, m14.keep on15 (fun e => m14.ne_blk b14 e.symm), ⟨?_, o14.blk⟩, fun x e => by rw [s15]; exact g14 x e, on14.then_ on15 fun x _ e => e ▸ h3⟩, by (try dsimp only); omega⟩
    rw [seqI_snoc, List.flatMap_append]
    have : S.R + (n : Int) = S'.R := by omega
    rw [this]
    have := o14.own.keep on15 fun x hx e => o14.own.ne_blk b14 (by decide) (by rw [hx, e])
    simpa [ci] using this
  · subst hc
    obtain ⟨e1, e2⟩ := RS.fin_done hH
    rw [e1] at hld
    rw [e2] at hfin
    refine jn.mk (fun (c : Sl × Int) w' => c = (out, S'.R) ∧ Quiet w6 w') ?_ ?_
    · show tk w9 _
      unfold tk
      exact nn_ ((b9.keepQ (Only.drew _ _)).ld rfl ⟨rfl, q9.tr (Only.drew _ _)⟩)
    · rintro c w17 ⟨rfl, q17⟩
      have hs17 := q17.size
      rw [← hfin]
      have on17 : Only F w w17 := on6.then_ q17 fun x _ e => e.elim
      refine ⟨rfl, ⟨⟨mb, b6.keepQ q17, m6.keepQ q17, h3, h4⟩, fun x hx => Nat.lt_of_lt_of_le (h.lt x hx) on17.size⟩, ⟨on17, fun x e => .inl e⟩, G, ?_, fun x e => ?_⟩
      · have : n = lead (S.mark f).H := by omega
        rw [← this]
        exact o6.keepQ q17
      · have := g6 x e
        omega
end Go.Proofs.YtgbhghoppjfofaaGreat
