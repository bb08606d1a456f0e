import Derived.Test.YtmnhehklhelpeaaVa
namespace Go.Proofs.Ytmnhehklhelpeaa
open Go.Dec Go.RowKit
set_option maxHeartbeats 1600000
set_option maxRecDepth 10000

def e0 : ByteArray := ByteArray.mk #[]
/-- what a sealed box is -/
structure Bo where
  text : ByteArray
  need : Int
  gone : Bool
def vT (b : Bo) : ByteArray := if b.gone = true then e0 else b.text
def vB (l : List Bo) : List (Int × ByteArray) := l.mapIdx fun i b => ((i : Int), vT b)
def valV (l : List Bo) : VS := ⟨l.map fun b => !b.gone, vB l⟩
def valX (l : List Bo) : List (Int × Int × Int) := l.mapIdx fun i b => ((i : Int), (i : Int), b.need)
def c3 (x : Int × Int × Int) : List Value := [.int .i64 x.1, .int .i64 x.2.1, .int .i64 x.2.2]
theorem c3l (x : Int × Int × Int) : (c3 x).length = 3 := rfl
theorem apX : appOK Try.prog 61 69 3 24 = true := by kernel_rfl
theorem valX_len (l : List Bo) : (valX l).length = l.length := by simp [valX]
theorem vB_len (l : List Bo) : (vB l).length = l.length := by simp [vB]
theorem good_len (l : List Bo) : (valV l).good.length = l.length := by simp [valV]
theorem boxes_len (l : List Bo) : (valV l).boxes.length = l.length := vB_len l
theorem vB_at (l : List Bo) (i : Nat) : (vB l)[i]? = (l[i]?).map fun b => ((i : Int), vT b) := by simp [vB]
theorem valX_at (l : List Bo) (i : Nat) : (valX l)[i]? = (l[i]?).map fun b => ((i : Int), (i : Int), b.need) := by simp [valX]
theorem valX_snoc (l : List Bo) (b : Bo) : valX (l ++ [b]) = valX l ++ [((l.length : Int), (l.length : Int), b.need)] := by simp [valX, List.mapIdx_concat]
theorem vB_snoc (l : List Bo) (b : Bo) : vB (l ++ [b]) = vB l ++ [((l.length : Int), vT b)] := by simp [vB, List.mapIdx_concat]
theorem gd_at (l : List Bo) {i : Nat} {b : Bo} (h : l[i]? = some b) : (valV l).gd (i : Int) = !b.gone := by
  refine gd_of ?_
  show (l.map fun b => !b.gone)[(i : Int).toNat]? = _
  rw [Int.toNat_natCast, List.getElem?_map, h]
  rfl
theorem ok_val (l : List Bo) : (valV l).ok := fun b hb => by
  obtain ⟨i, hi⟩ := List.getElem?_of_mem hb
  have hi : (vB l)[i]? = some b := hi
  rw [vB_at] at hi
  cases h : l[i]? with
  | none => rw [h] at hi; simp at hi
  | some c =>
    rw [h] at hi
    simp at hi
    subst hi
    have := (List.getElem?_eq_some_iff.1 h).1
    simp [VS.has, good_len]
    exact this

structure IsS (w : World) (F : Nat → Prop) (sb : Nat) (l : List Bo) : Prop where
  ex : ∃ (G H : Nat → Prop) (vb : Nat) (xs : Sl), Blk w sb 63 #[.pointer (some ⟨vb, 0, none⟩), xs.v] ∧ IsV w G vb (valV l) ∧ OwnF w H 69 3 xs ((valX l).flatMap c3) ∧ (∀ b, G b → ¬ H b) ∧ ¬ G sb ∧ ¬ H sb ∧ F sb ∧ (∀ b, G b → F b) ∧ (∀ b, H b → F b)
  lt : ∀ b, F b → b < w.heap.size
theorem IsS.keep {w w' : World} {F D : Nat → Prop} {sb : Nat} {l : List Bo} (h : IsS w F sb l) (ho : Only D w w') (hd : ∀ b, F b → ¬ D b) : IsS w' F sb l := by
  obtain ⟨G, H, vb, xs, h1, h2, h3, h4, h5, h6, h7, h8, h9⟩ := h.ex
  exact ⟨⟨G, H, vb, xs, h1.keep ho (hd _ h7), h2.keep ho fun b hb => hd _ (h8 b hb), h3.keep ho fun b hb => hd _ (h9 b hb), h4, h5, h6, h7, h8, h9⟩, fun b hb => Nat.lt_of_lt_of_le (h.lt b hb) ho.size⟩
theorem IsS.keepQ {w w' : World} {F : Nat → Prop} {sb : Nat} {l : List Bo} (h : IsS w F sb l) (q : Quiet w w') : IsS w' F sb l := h.keep q fun _ _ => id

theorem new_s (w : World) : callC Try.prog 8 #[] (fun (r : Option Addr) => .pointer r) w fun r w' => ∃ sb F, r = some ⟨sb, 0, none⟩ ∧ IsS w' F sb [] ∧ Quiet w w' ∧ ∀ b, F b → w.heap.size ≤ b := by
  refine D8 w _ ?_
  unfold F8
  refine (new_c w).use ?_
  rintro _ w1 ⟨vb, rfl, hv, q1, g1, l1⟩
  refine nwL fun b w2 hb q2 g2 s2 l2 => ?_
  refine ⟨b, fun x => x = b ∨ x = vb, rfl, ⟨⟨fun x => x = vb, fun _ => False, vb, Sl.nil, hb, hv.keepQ q2, OwnF.nil _ _ _ _, fun _ _ => id, fun e => by omega, id, .inl rfl, fun x e => .inr e, fun x e => e.elim⟩, fun x e => by omega⟩, q1.tr q2, fun x e => ?_⟩
  have := q1.size
  omega

def okN (k n : Int) : Prop := (1 ≤ n ∧ n ≤ 20) ∧ 1 ≤ k ∧ k ≤ n
/-- what sealing does: by it the program and the reference answer alike -/
def SealR (w : World) (F' : Nat → Prop) (l l' : List Bo) (t : ByteArray) (k n seed : Int) (r : Int × Sl × Int) (w' : World) : Prop :=
  (¬ okN k n ∧ r = (0, Sl.nil, 1) ∧ l' = l) ∨ (okN k n ∧ 65536 < t.size ∧ r = (0, Sl.nil, 6) ∧ l' = l) ∨
  (okN k n ∧ t.size ≤ 65536 ∧ r.1 = l.length ∧ r.2.2 = 0 ∧ l' = l ++ [⟨t, k, false⟩] ∧ ∃ P : Nat → Prop, OwnF w' P 56 2 r.2.1 ((splP l.length k.toNat n.toNat seed).flatMap pt) ∧ ∀ b, P b → (w.heap.size ≤ b ∧ b < w'.heap.size) ∧ ¬ F' b)
theorem seal_c (w : World) (F : Nat → Prop) (sb : Nat) (l : List Bo) (t : ByteArray) (k n seed : Int) (h : IsS w F sb l) (hl : l.length ≤ 1000) (hk : -9223372036854775808 ≤ k) :
    callC Try.prog 9 #[.pointer (some ⟨sb, 0, none⟩), .string t, .int .i64 k, .int .i64 n, .int .i64 seed] (fun (r : Int × Sl × Int) => .tuple #[.int .i64 r.1, Sl.v r.2.1, .int .i64 r.2.2]) w fun r w' => ∃ F' l', IsS w' F' sb l' ∧ Stp F w F' w' ∧ SealR w F' l l' t k n seed r w' := by
  refine D9 _ _ _ _ _ w _ ?_
  unfold F9
  refine (split_c w 0 k n seed hk).use ?_
  rintro r9 w1 ⟨hn, hs, q1⟩
  have hS1 := h.keepQ q1
  have st1 : Stp F w F w1 := Stp.quiet q1
  by_cases ok : okN k n
  rotate_left
  · have : ¬ okSplit 0 k n := fun c => ok c.2
    rw [hn this]
    exact ⟨fun _ => ⟨F, l, hS1, st1, .inl ⟨ok, rfl, rfl⟩⟩, fun g => by simp at g⟩
  obtain ⟨e9, _⟩ := hs ⟨fld0, ok⟩
  rw [e9]
  refine ⟨fun g => by simp at g, fun _ => ?_⟩
  refine ⟨fun g => ?_, fun g => ?_⟩
  · have g : 65536 < (t.size : Int) := of_decide_eq_true g
    exact ⟨F, l, hS1, st1, .inr (.inl ⟨ok, by omega, rfl, rfl⟩)⟩
  have g : ¬ 65536 < (t.size : Int) := of_decide_eq_false g
  obtain ⟨G, H, vb, xs, h1, h2, h3, h4, h5, h6, h7, h8, h9⟩ := hS1.ex
  have hlt := hS1.lt
  refine nn_ (h1.ld (o := 0) (i := 0) rfl ?_)
  refine (key_c w1 G vb _ h2 (by rw [good_len]; omega)).use ?_
  rintro r14 w2 ⟨e14, G2, v2, s2⟩
  have b2 := h1.keep s2.only h5
  refine nn_ (b2.ld (o := 0) (i := 0) rfl ?_)
  refine (lock_c w2 G2 vb _ r14 t v2 (by show (valV l).boxes.length ≤ 100000; rw [boxes_len]; omega)).use ?_
  rintro r17 w3 ⟨e17, G3, v3, s3⟩
  rw [good_len] at e14
  have hlk : (valV l).key.lock r14 t = (valV (l ++ [⟨t, k, false⟩]), (l.length : Int), 0) := by
    have hh : (valV l).key.has r14 = true := by
      simp [VS.has, VS.key, good_len, e14]
      omega
    have hg : (valV l).key.gd r14 = true := by
      refine gd_of ?_
      show ((valV l).good ++ [true])[r14.toNat]? = some true
      rw [e14, Int.toNat_natCast, List.getElem?_append_right (by rw [good_len]; exact Nat.le_refl _), good_len]
      simp
    unfold VS.lock
    rw [if_pos hh, if_pos hg]
    have e1 : (valV l).key.boxes.length = l.length := boxes_len l
    rw [e1, e14]
    simp [valV, VS.key, vB_snoc, vT]
  rw [hlk] at e17 v3
  have e17a : r17.1 = l.length := by rw [e17]
  have e17b : r17.2 = 0 := by rw [e17]
  refine ⟨fun g => by simp [e17b] at g, fun _ => ?_⟩
  have hsub3 : ∀ b, G3 b → G b ∨ (w1.heap.size ≤ b ∧ b < w3.heap.size) := fun b hb => by
    have := s2.only.size
    have := s3.only.size
    rcases s3.sub b hb with e | e
    · rcases s2.sub b e with e | e
      · exact .inl e
      · exact .inr (by omega)
    · exact .inr (by omega)
  have hsub2 : ∀ b, G2 b → G b ∨ (w1.heap.size ≤ b ∧ b < w2.heap.size) := s2.sub
  have lsb := hlt sb h7
  have nG2 : ∀ b, b < w1.heap.size → ¬ G b → ¬ G2 b := fun b hb hn e => by
    rcases hsub2 b e with e | e
    · exact hn e
    · omega
  have nG3 : ∀ b, b < w1.heap.size → ¬ G b → ¬ G3 b := fun b hb hn e => by
    rcases hsub3 b e with e | e
    · exact hn e
    · omega
  have b3 := b2.keep s3.only (nG2 sb lsb h5)
  have x3 : OwnF w3 H 69 3 xs ((valX l).flatMap c3) := (h3.keep s2.only fun b hb e => h4 b e hb).keep s3.only fun b hb => nG2 b (hlt b (h9 b hb)) fun e => h4 b e hb
  have xl := (x3.rd c3l (by decide)).len
  rw [valX_len] at xl
  have z2 := s2.only.size
  have z3 := s3.only.size
  refine nn_ (b3.ld (o := 0) (i := 1) rfl ?_)
  refine x3.push (news := c3 (r14, r17.1, k)) apX rfl rfl (by unfold maxLen; omega) (by omega) fun r22 w5 H5 x5 l5 s5 => ?_
  have z5 := s5.only.size
  have b5 := b3.keep s5.only h6
  have nH5 : ∀ b, b < w1.heap.size → ¬ H b → ¬ H5 b := fun b hb hn e => by
    rcases s5.sub b e with e | e
    · exact hn e
    · omega
  refine nn_ (b5.st (by simp) fun w6 b6 on6 z6 => ?_)
  have x6 := x5.keep on6 fun b hb e => nH5 sb lsb h6 (e ▸ hb)
  have v6 : IsV w6 G3 vb (valV (l ++ [⟨t, k, false⟩])) := (v3.keep s5.only fun b hb e => by
    rcases hsub3 b hb with e' | e'
    · exact h4 b e' e
    · have := hlt b (h9 b e)
      omega).keep on6 fun b hb e => nG3 sb lsb h5 (e ▸ hb)
  refine (split_c w6 r14 k n seed hk).use ?_
  rintro r25 w7 ⟨_, hs7, q7⟩
  obtain ⟨e25, P, o25, f25⟩ := hs7 ⟨by rw [e14]; unfold Fld; omega, ok⟩
  refine nn_ ((b6.keepQ q7).ld (o := 0) (i := 1) rfl ?_)
  have z7 := q7.size
  have hx : OwnF w6 H5 69 3 r22 ((valX (l ++ [⟨t, k, false⟩])).flatMap c3) := by
    rw [valX_snoc, List.flatMap_append]
    rw [e14, e17a] at x6
    simpa [c3] using x6
  refine ⟨gro F w w6, l ++ [⟨t, k, false⟩], ⟨⟨G3, H5, vb, r22, b6.keepQ q7, v6.keepQ q7, hx.keepQ q7, ?_, nG3 sb lsb h5, nH5 sb lsb h6, .inl h7, ?_, ?_⟩, ?_⟩, ?_, ?_⟩
  · intro b hb hb'
    rcases s5.sub b hb' with e' | e'
    · exact nG3 b (hlt b (h9 b e')) (fun e => h4 b e e') hb
    · have := v3.lt b hb
      omega
  · intro b hb
    have := q1.size
    rcases hsub3 b hb with e | e
    · exact .inl (h8 b e)
    · exact .inr (by omega)
  · intro b hb
    have := q1.size
    rcases s5.sub b hb with e | e
    · exact .inl (h9 b e)
    · exact .inr (by omega)
  · rintro b (e | e)
    · have := hlt b e
      omega
    · omega
  · refine ⟨?_, ?_⟩
    · have := q1.size
      refine ((((st1.only.then_ s2.only fun b _ e => h8 b e).then_ s3.only fun b hb e => ?_).then_ s5.only fun b _ e => h9 b e).then_ on6 fun b _ e => e ▸ h7).then_ q7 fun b _ e => e.elim
      rcases hsub2 b e with e | e
      · exact h8 b e
      · omega
    · rintro b (e | e)
      · exact .inl e
      · exact .inr (by omega)
  · refine .inr (.inr ⟨ok, by omega, ?_, e25, rfl, P, ?_, fun b hb => ?_⟩)
    · show IntKind.i64.wrap ((r22.len : Int) - 1) = l.length
      rw [l5, xl, w64 (by omega) (by omega)]
      omega
    · rw [e14] at o25
      exact o25
    · have h1 := f25.b b hb
      have := q1.size
      refine ⟨by omega, ?_⟩
      rintro (e | e)
      · have := hlt b e
        omega
      · omega
end Go.Proofs.Ytmnhehklhelpeaa
