import Derived.Test.YtmnhehklhelpeaaSa
namespace Go.Proofs.Ytmnhehklhelpeaa
open Go.Dec Go.RowKit
set_option maxHeartbeats 1600000
set_option maxRecDepth 10000

/-- what opening answers -/
def OpenR (l : List Bo) (i : Int) (m : List Pt) (r : ByteArray × Int) : Prop :=
  ((i < 0 ∨ (l.length : Int) ≤ i) ∧ r = (e0, 4)) ∨ ∃ b j, 0 ≤ i ∧ l[i.toNat]? = some b ∧ JoinR m b.need j ∧ (j.2 ≠ 0 ∧ r = (e0, j.2) ∨ j.2 = 0 ∧ ((j.1 ≠ i ∨ b.gone = true) ∧ r = (e0, 13) ∨ j.1 = i ∧ b.gone = false ∧ r = (b.text, 0)))
theorem OpenR.uniq {l : List Bo} {i : Int} {m : List Pt} {r s : ByteArray × Int} (h : OpenR l i m r) (h' : OpenR l i m s) : r = s := by
  have lt : ∀ {b : Bo}, l[i.toNat]? = some b → i.toNat < l.length := fun hb => (List.getElem?_eq_some_iff.1 hb).1
  rcases h with ⟨h1, rfl⟩ | ⟨b, j, h1, h2, h3, h4⟩
  · rcases h' with ⟨k1, rfl⟩ | ⟨c, k, k1, k2, k3, k4⟩
    · rfl
    · have := lt k2
      omega
  · rcases h' with ⟨k1, rfl⟩ | ⟨c, k, k1, k2, k3, k4⟩
    · have := lt h2
      omega
    · rw [h2] at k2
      injection k2 with k2
      subst k2
      have ej := JoinR.uniq h3 k3
      subst ej
      rcases h4 with ⟨a1, rfl⟩ | ⟨a1, ⟨a2, rfl⟩ | ⟨a2, a3, rfl⟩⟩ <;> rcases k4 with ⟨b1, rfl⟩ | ⟨b1, ⟨b2, rfl⟩ | ⟨b2, b3, rfl⟩⟩
      · rfl
      · exact absurd b1 a1
      · exact absurd b1 a1
      · exact absurd a1 b1
      · rfl
      · exact absurd b2 (by rcases a2 with a2 | a2; exact a2; rw [b3] at a2; cases a2)
      · exact absurd a1 b1
      · exact absurd a2 (by rcases b2 with b2 | b2; exact b2; rw [a3] at b2; cases b2)
      · rfl
theorem open_s (w : World) (F : Nat → Prop) (sb : Nat) (l : List Bo) (i : Int) (s : Sl) (m : List Pt) (h : IsS w F sb l) (hm : Rd w pt 2 s m) (hcap : s.len ≤ s.cap) (hml : m.length ≤ 1000) :
    callC Try.prog 10 #[.pointer (some ⟨sb, 0, none⟩), .int .i64 i, s.v] (fun (r : ByteArray × Int) => .tuple #[.string r.1, .int .i64 r.2]) w fun r w' => OpenR l i m r ∧ Quiet w w' := by
  refine D10 _ _ _ w _ ?_
  unfold F10
  obtain ⟨G, H, vb, xs, h1, h2, h3, h4, h5, h6, h7, h8, h9⟩ := h.ex
  have hx := h3.rd c3l (by decide)
  have hxl := hx.len
  rw [valX_len] at hxl
  refine jp.val (decide (i < 0) || decide ((l.length : Int) ≤ i)) ⟨fun hc => ?_, fun hc => nn_ (h1.ld (o := 0) (i := 1) rfl ?_)⟩ ⟨fun hc => ?_, fun hc => ?_⟩
  · simp [hc]
  · simp [hc, hxl]
  · have : i < 0 ∨ (l.length : Int) ≤ i := by simpa using hc
    exact ⟨.inl ⟨this, rfl⟩, Only.refl _ _⟩
  have hlt : ¬ (i < 0 ∨ (l.length : Int) ≤ i) := by simpa using hc
  obtain ⟨b, hb⟩ := getq (l := l) (show 0 ≤ i by omega) (by omega)
  have hiI : ((i.toNat : Nat) : Int) = i := Int.toNat_of_nonneg (by omega)
  have hxb : (valX l)[i.toNat]? = some (i, i, b.need) := by rw [valX_at, hb, ← hiI]; rfl
  refine nn_ (h1.ld (o := 0) (i := 1) rfl (hx.ixx (by omega) hxb fun p hat _ => hat.ld (j := 0) rfl (hat.ld (j := 1) rfl (hat.ld (j := 2) rfl ?_))))
  refine box_all rfl fun b21 w2 hb21 q2 _ _ => hb21.ld (o := 0) (i := 2) rfl ?_
  refine (join_c w2 s m b.need (hm.keepQ q2) hcap hml).use ?_
  rintro r24 w3 ⟨hj, q3⟩
  refine ⟨fun g => ⟨.inr ⟨b, r24, by omega, hb, hj, .inl ⟨nd g, rfl⟩⟩, q2.tr q3⟩, fun g => ?_⟩
  have g : r24.2 = 0 := nt g
  have q23 := q2.tr q3
  refine jn.mk (fun (r : ByteArray × Int) w' => OpenR l i m r ∧ Quiet w w') ?_ fun r w' h => h
  show tk _ _
  unfold tk
  have qd : Quiet w3 w3.drew := Only.drew _ _
  have q4 := q23.tr qd
  have hb21' := hb21.keepQ (q3.tr qd)
  generalize w3.drew = w4 at *
  refine nn_ ((h1.keepQ q4).ld (o := 0) (i := 0) rfl (hb21'.ld (o := 0) (i := 1) rfl ?_))
  refine (open_c w4 G vb _ r24.1 i (h2.keepQ q4) (ok_val l)).use ?_
  rintro r31 w5 ⟨e31, q5⟩
  refine ⟨.inr ⟨b, r24, by omega, hb, hj, .inr ⟨g, ?_⟩⟩, q4.tr q5⟩
  have hbl : (valV l).boxes.length = l.length := boxes_len l
  have hba : (valV l).boxes[i.toNat]? = some (i, vT b) := by
    show (vB l)[i.toNat]? = _
    rw [vB_at, hb, ← hiI]
    rfl
  rw [VS.opn, if_neg (by rw [hbl]; exact hlt), hba] at e31
  dsimp only at e31
  have hgd : (valV l).gd i = !b.gone := by
    have := gd_at l hb
    rwa [hiI] at this
  by_cases hk : i = r24.1
  · rw [← hk, hgd] at e31
    cases hg : b.gone with
    | true =>
      rw [hg] at e31
      exact .inl ⟨.inr rfl, by rw [e31, if_neg (fun c => by cases c.2)]; rfl⟩
    | false =>
      rw [hg] at e31
      refine .inr ⟨hk.symm, rfl, ?_⟩
      rw [e31]
      simp [vT, hg]
  · rw [if_neg (fun c => hk c.1)] at e31
    exact .inl ⟨.inl fun c => hk c.symm, by rw [e31]; rfl⟩

def burnL (l : List Bo) (i : Int) : List Bo × Int :=
  if i < 0 ∨ (l.length : Int) ≤ i then (l, 4) else match l[i.toNat]? with
    | some b => if b.gone = true then (l, 5) else (l.set i.toNat { b with gone := true }, 0)
    | none => (l, 4)
theorem burn_len (l : List Bo) (i : Int) : (burnL l i).1.length = l.length := by
  unfold burnL
  split
  · rfl
  · split
    · split
      · rfl
      · simp
    · rfl
theorem set_map {α β : Type} {f : Nat → α → β} {l : List α} {i : Nat} {x y : α} (hx : l[i]? = some x) (he : f i x = f i y) : (l.set i y).mapIdx f = l.mapIdx f := by
  apply List.ext_getElem?
  intro j
  rw [List.getElem?_mapIdx, List.getElem?_mapIdx, List.getElem?_set]
  have := (List.getElem?_eq_some_iff.1 hx).1
  by_cases e : i = j
  · subst e
    rw [if_pos rfl, if_pos this, hx]
    simp [he]
  · rw [if_neg e]
theorem burn_s (w : World) (F : Nat → Prop) (sb : Nat) (l : List Bo) (i : Int) (h : IsS w F sb l) (hl : l.length ≤ 1000) :
    callC Try.prog 14 #[.pointer (some ⟨sb, 0, none⟩), .int .i64 i] (fun (r : Int) => .int .i64 r) w fun r w' => r = (burnL l i).2 ∧ ∃ F', IsS w' F' sb (burnL l i).1 ∧ Stp F w F' w' := by
  refine D14 _ _ w _ ?_
  unfold F14
  obtain ⟨G, H, vb, xs, h1, h2, h3, h4, h5, h6, h7, h8, h9⟩ := h.ex
  have hx := h3.rd c3l (by decide)
  have hxl := hx.len
  rw [valX_len] at hxl
  refine jp.val (decide (i < 0) || decide ((l.length : Int) ≤ i)) ⟨fun hc => ?_, fun hc => nn_ (h1.ld (o := 0) (i := 1) rfl ?_)⟩ ⟨fun hc => ?_, fun hc => ?_⟩
  · simp [hc]
  · simp [hc, hxl]
  · have : i < 0 ∨ (l.length : Int) ≤ i := by simpa using hc
    unfold burnL
    rw [if_pos this]
    exact ⟨rfl, F, h, Stp.refl _ _⟩
  have hlt : ¬ (i < 0 ∨ (l.length : Int) ≤ i) := by simpa using hc
  obtain ⟨b, hb⟩ := getq (l := l) (show 0 ≤ i by omega) (by omega)
  have hiI : ((i.toNat : Nat) : Int) = i := Int.toNat_of_nonneg (by omega)
  have hxb : (valX l)[i.toNat]? = some (i, i, b.need) := by rw [valX_at, hb, ← hiI]; rfl
  have hbu : burnL l i = if b.gone = true then (l, 5) else (l.set i.toNat { b with gone := true }, 0) := by
    unfold burnL
    rw [if_neg hlt, hb]
  refine jn.mk (fun (r : Int) w' => r = (burnL l i).2 ∧ ∃ F', IsS w' F' sb (burnL l i).1 ∧ Stp F w F' w') ?_ fun r w' h => h
  show tk _ _
  unfold tk
  have qd : Quiet w w.drew := Only.drew _ _
  have std : Stp F w F w.drew := Stp.quiet qd
  replace h1 := h1.keepQ qd
  replace h2 := h2.keepQ qd
  replace h3 := h3.keepQ qd
  replace hx := hx.keepQ qd
  have hlt0 : ∀ b, F b → b < w.drew.heap.size := (h.keepQ qd).lt
  generalize w.drew = w1 at *
  refine nn_ (h1.ld (o := 0) (i := 0) rfl (nn_ (h1.ld (o := 0) (i := 1) rfl (hx.ixx (by omega) hxb fun p hat _ => hat.ld (j := 0) rfl ?_))))
  refine (destroy_c w1 G vb _ i h2 (by show (valV l).boxes.length ≤ 100000; rw [boxes_len]; omega)).use ?_
  rintro r23 w2 ⟨e23, G', v2, s2⟩
  have b2 := h1.keep s2.only h5
  refine ⟨b2.ld0' rfl, ?_⟩
  have x2 := h3.keep s2.only fun b hb e => h4 b e hb
  have hhas : (valV l).has i = true := by
    simp [VS.has, good_len]
    omega
  have hgd : (valV l).gd i = !b.gone := by
    have := gd_at l hb
    rwa [hiI] at this
  have key : (valV l).destroy i = (valV (burnL l i).1, (burnL l i).2) := by
    rw [hbu]
    unfold VS.destroy
    rw [if_pos hhas, hgd]
    cases hg : b.gone with
    | true => rfl
    | false =>
      show (({ good := (valV l).good.set i.toNat false, boxes := List.map (wipe i) (valV l).boxes } : VS), (0 : Int)) = (valV (l.set i.toNat { b with gone := true }), 0)
      congr 1
      unfold valV
      congr 1
      · rw [List.map_set]
        rfl
      · apply List.ext_getElem?
        intro j
        show ((vB l).map (wipe i))[j]? = (vB (l.set i.toNat _))[j]?
        rw [List.getElem?_map, vB_at, vB_at, List.getElem?_set]
        have hil := (List.getElem?_eq_some_iff.1 hb).1
        by_cases e : i.toNat = j
        · subst e
          rw [if_pos rfl, if_pos hil, hb]
          simp [wipe, hiI, vT, e0]
        · rw [if_neg e]
          cases hj : l[j]? with
          | none => rfl
          | some c =>
            have : (j : Int) ≠ i := by omega
            simp [wipe, this]
  rw [key] at e23 v2
  refine ⟨e23, gro F w w2, ⟨⟨G', H, vb, xs, b2, v2, ?_, ?_, ?_, h6, .inl h7, ?_, fun b hb => .inl (h9 b hb)⟩, ?_⟩, ?_, ?_⟩
  · have : valX (burnL l i).1 = valX l := by
      rw [hbu]
      split
      · rfl
      · exact set_map (f := fun (i : Nat) (b : Bo) => ((i : Int), (i : Int), b.need)) hb rfl
    rw [this]
    exact x2
  · intro b hb hb'
    rcases s2.sub b hb with e | e
    · exact h4 b e hb'
    · have := hlt0 b (h9 b hb')
      omega
  · intro e
    rcases s2.sub sb e with e | e
    · exact h5 e
    · have := hlt0 sb h7
      omega
  · intro b hb
    have := std.only.size
    rcases s2.sub b hb with e | e
    · exact .inl (h8 b e)
    · exact .inr (by omega)
  · rintro b (e | e)
    · have := hlt0 b e
      have := s2.only.size
      omega
    · exact e.2
  · exact std.only.then_ s2.only fun b _ e => h8 b e
  · exact fun b e => e

theorem len_s (w : World) (F : Nat → Prop) (sb : Nat) (l : List Bo) (h : IsS w F sb l) :
    callC Try.prog 15 #[.pointer (some ⟨sb, 0, none⟩)] (fun (r : Int) => .int .i64 r) w fun r w' => r = l.length ∧ w = w' := by
  refine D15 _ w _ ?_
  unfold F15
  obtain ⟨G, H, vb, xs, h1, h2, h3, h4, h5, h6, h7, h8, h9⟩ := h.ex
  have hxl := (h3.rd c3l (by decide)).len
  rw [valX_len] at hxl
  exact nn_ (h1.ld (o := 0) (i := 1) rfl ⟨by rw [hxl], rfl⟩)
end Go.Proofs.Ytmnhehklhelpeaa
