import Derived.Test.YtjmjackeeiglmaaPr
namespace Go.Proofs.Ytjmjackeeiglmaa
open Go.Dec Go.RowKit
set_option maxHeartbeats 400000

theorem bq {W w : World} (q : Quiet W w) : Below W.heap.size W w := q.below (Nat.le_refl _) fun _ e => e.elim

theorem reaches (W : World) (s : Sl) (l : List Pl) (h : RdP W s l) (hl : l.length ≤ maxLen) (hfr : ∀ p ∈ l, p.frm.length ≤ maxLen)
    (t : Sl) (m : List Int) (hm : Rd W ci 1 t m) (_ : ∀ ad, t.a = some ad → 0 < m.length → ad.block < W.heap.size) (_ : m.length ≤ maxLen)
    (u : Sl) (set : List Int) (hu : Rd W ci 1 u set) (_ : ∀ ad, u.a = some ad → 0 < set.length → ad.block < W.heap.size) (_ : set.length ≤ maxLen) :
    callC Try.prog 4 #[s.v, t.v, u.v] (fun (r : Bool) => .bool r) W fun r w' => r = true ∧ Below W.heap.size W w' := by
  have hsl := h.len
  have htl := hm.len
  have hul := hu.len
  have hl' : l.length ≤ 9223372036854775807 := by unfold maxLen at hl; omega
  have hfr' : ∀ p ∈ l, p.frm.length ≤ 9223372036854775807 := fun p hp => by have := hfr p hp; unfold maxLen at this; omega
  refine D4 _ _ _ W _ ?_
  unfold F4
  refine (small_c W).use ?_
  rintro r w1 ⟨rfl, q1⟩
  refine (few_c w1 s l 30 (h.keepQ q1) (by decide) (by decide) hl').use ?_
  rintro r w2 ⟨hfew, rfl⟩
  refine jn.mk (fun c w' => (c = false → ((l.length : Int) ≤ 30 ∧ ∀ p ∈ l, p.frm.length ≤ 40) ∧ m.length ≤ 40 ∧ set.length ≤ 40 ∧ RtP l) ∧ Quiet w1 w') ⟨fun _ => ⟨fun e => (by cases e), Only.refl _ _⟩, fun hc => (right_c w1 s l (h.keepQ q1) hl' hfr').use ?_⟩ ?_
  · rintro a w3 ⟨ha, q3⟩
    rw [htl, hul] at hc
    simp at hc
    exact ⟨fun e => ⟨hfew hc.1.1, by omega, by omega, ha.1 (by simpa using e)⟩, q3⟩
  rintro c w4 ⟨hc4, q4⟩
  have qa := q1.tr q4
  refine ⟨fun _ => ⟨rfl, bq qa⟩, fun hc => ?_⟩
  obtain ⟨⟨h30, h40⟩, hm40, hs40, hR⟩ := hc4 hc
  refine (reach_c w4 s t l m ⟨h.keepQ qa, hm.keepQ qa, hl', fun p hp => by have := h40 p hp; omega, by omega⟩).use ?_
  rintro r12 w5 ⟨F, o5, f5⟩
  have qb := qa.tr f5.q
  unfold reachP at o5
  rw [if_pos hR] at o5
  have hX := o5.rd ci1 (by decide)
  have hXl := hX.len
  have hil := idx_len 0 (fl m l)
  rw [fl_len] at hil
  have hsort := idx_sorted 0 (fl m l)
  have hlt_ : ∀ x ∈ idx 0 (fl m l), 0 ≤ x ∧ x < l.length := fun x hx => reach_lt hx
  have hiff := fun (i : Nat) (p : Pl) (hp : l[i]? = some p) => reach_iff (roots := m) hR hp
  have hleast := fun hr hc => reach_least (roots := m) (set := set) hR hr hc
  generalize idx 0 (fl m l) = X at *
  -- sorted, and in range
  refine ⟨fun i w' => 0 ≤ i ∧ i ≤ X.length ∧ Quiet w5 w', fun i _ => (X.length - i).toNat, ⟨by omega, by omega, Only.refl _ _⟩, ?_⟩
  rintro i w6 ⟨i0, i1, q6⟩
  refine ⟨fun hi => ?_, fun hi => ?_⟩
  · have hlt : i < X.length := by simpa [hXl] using hi
    obtain ⟨x, hx⟩ := getq i0 hlt
    obtain ⟨x0, x1⟩ := hlt_ x (List.mem_of_getElem? hx)
    have qd : Quiet w5 w6.drew := q6.tr (Only.drew _ _)
    have rd : ∀ {K : Addr → Prop}, (∀ p, AtC w6.drew p (ci x) → K p) → ix r12 i 1 K := fun kk => (hX.keepQ qd).ix i0 hlt fun p y hy hat _ => by
      rw [hx] at hy
      injection hy with hy
      subst hy
      exact kk p hat
    refine jn.mk (fun c w' => c = false ∧ Quiet w5 w') ?_ ?_
    · show tk w6 _
      unfold tk
      refine rd fun p hat => hat.ld0 rfl ⟨fun hc => absurd hc (by simp; omega), fun _ => rd fun p hat => hat.ld0 rfl ⟨fun hc => absurd hc (by rw [hsl]; simp; omega), fun _ => ⟨fun hc => ?_, fun _ => ⟨rfl, qd⟩⟩⟩⟩
      have hi0 : 0 < i := by simpa using hc
      rw [w64 (x := i - 1) (by omega) (by omega)]
      refine (hX.keepQ qd).ix (by omega) (by omega) fun p y hy hat2 _ => hat2.ld0 rfl (rd fun p hat => hat.ld0 rfl ⟨?_, qd⟩)
      obtain ⟨a1, a2⟩ := List.getElem?_eq_some_iff.1 hx
      obtain ⟨b1, b2⟩ := List.getElem?_eq_some_iff.1 hy
      have := List.pairwise_iff_getElem.1 hsort (i - 1).toNat i.toNat b1 a1 (by omega)
      rw [a2, b2] at this
      simp
      omega
    · rintro c w8 ⟨rfl, q8⟩
      refine ⟨fun hc => absurd hc (by decide), fun _ => ?_⟩
      rw [w64 (by omega) (by omega)]
      exact ⟨⟨by omega, by omega, q8⟩, by (try dsimp only); omega⟩
  -- the roots are in it
  clear i0 i1 hi
  refine ⟨fun (c : Bool × Int) w' => 0 ≤ c.2 ∧ c.2 ≤ m.length ∧ (c.1 = true ↔ ∀ r ∈ m.take c.2.toNat, 0 ≤ r → r < l.length → r ∈ set) ∧ w6 = w', fun c _ => (m.length - c.2).toNat, ⟨by simp, by simp, by simp, rfl⟩, ?_⟩
  have qW6 := qb.tr q6
  rintro ⟨all, i⟩ w9 ⟨i0, i1, hall, rfl⟩
  dsimp only at i0 i1 hall ⊢
  refine ⟨fun hi => ?_, fun hi => ?_⟩
  · have hlt : i < m.length := by simpa [htl] using hi
    obtain ⟨x, hx⟩ := getq i0 hlt
    have rd : ∀ {K : Addr → Prop}, (∀ p, AtC w6 p (ci x) → K p) → ix t i 1 K := fun kk => (hm.keepQ qW6).ix i0 hlt fun p y hy hat _ => by
      rw [hx] at hy
      injection hy with hy
      subst hy
      exact kk p hat
    refine jn.mk (fun c w' => (c = true ↔ ∀ r ∈ m.take (i.toNat + 1), 0 ≤ r → r < l.length → r ∈ set) ∧ w6 = w') ?_ ?_
    · rw [take_next hx]
      refine rd fun p hat => hat.ld0 rfl ?_
      refine jp.val (decide (x < 0) || decide ((s.len : Int) ≤ x)) ⟨fun hc => by simp [hc], fun hc => rd fun p hat => hat.ld0 rfl (by simp [hc])⟩ ?_
      refine ⟨fun hc => ⟨?_, rfl⟩, fun hc => rd fun p hat => hat.ld0 rfl ?_⟩
      · rw [hall]
        have : x < 0 ∨ (l.length : Int) ≤ x := by rw [hsl] at hc; simpa using hc
        refine ⟨fun hh r hr r0 r1 => ?_, fun hh r hr => hh r (List.mem_append.2 (.inl hr))⟩
        rcases List.mem_append.1 hr with e | e
        · exact hh r e r0 r1
        · simp at e
          omega
      · have hx' : 0 ≤ x ∧ x < l.length := by rw [hsl] at hc; simpa using hc
        have hXx : x ∈ X := by
          obtain ⟨p, hp⟩ := getq (l := l) hx'.1 hx'.2
          have := (hiff x.toNat p hp).2 (.inl (by rw [show ((x.toNat : Nat) : Int) = x by omega]; exact List.mem_of_getElem? hx))
          rwa [show ((x.toNat : Nat) : Int) = x by omega] at this
        refine (has_c w6 r12 X x (hX.keepQ q6) (by omega)).use ?_
        rintro r w11 ⟨rfl, rfl⟩
        refine ⟨fun hc => absurd hc (by simp [hXx]), fun _ => ?_⟩
        refine jn.mk (fun c w' => c = (all && decide (x ∈ set)) ∧ w6 = w') ⟨fun hc => rd fun p hat => hat.ld0 rfl ((has_c w6 u set x (hu.keepQ qW6) (by omega)).use ?_), fun hc => ⟨by simp [hc], rfl⟩⟩ ?_
        · rintro r w12 ⟨rfl, rfl⟩
          exact ⟨by simp [hc], rfl⟩
        rintro c w13 ⟨rfl, rfl⟩
        refine ⟨?_, rfl⟩
        rw [Bool.and_eq_true, hall, decide_eq_true_eq]
        refine ⟨fun ⟨hh, hxs⟩ r hr r0 r1 => ?_, fun hh => ⟨fun r hr => hh r (List.mem_append.2 (.inl hr)), hh x (by simp) hx'.1 hx'.2⟩⟩
        rcases List.mem_append.1 hr with e | e
        · exact hh r e r0 r1
        · simp at e
          exact e ▸ hxs
    · rintro c w10 ⟨h1, rfl⟩
      rw [w64 (by omega) (by omega)]
      exact ⟨⟨by (try dsimp only); omega, by (try dsimp only); omega, by rw [show (c, i + 1).2.toNat = i.toNat + 1 by (try dsimp only); omega]; exact h1, rfl⟩, by (try dsimp only); omega⟩
  have hge : m.length ≤ i.toNat := by simp [htl] at hi; omega
  rw [List.take_of_length_le hge] at hall
  have hf40 : ∀ p ∈ l, p.frm.length ≤ 1000000 := fun p hp => by have := h40 p hp; omega
  refine (closed_c w6 s r12 l X (h.keepQ qW6) (hX.keepQ q6) (by omega) hf40 (by omega)).use ?_
  rintro r w14 ⟨hcl, rfl⟩
  have hXc : Closed l X := fun i p hp f hf hfX => (hiff i p hp).2 (.inr ⟨f, hf, hfX⟩)
  refine ⟨fun hc => absurd hc (by rw [hcl.2 hXc]; decide), fun _ => ?_⟩
  clear i0 i1 hi hge
  refine ⟨fun i w' => 0 ≤ i ∧ i ≤ X.length ∧ w6 = w', fun i _ => (X.length - i).toNat, ⟨by omega, by omega, rfl⟩, ?_⟩
  rintro i w15 ⟨i0, i1, rfl⟩
  refine ⟨fun hi => ?_, fun hi => ⟨rfl, bq qW6⟩⟩
  have hlt : i < X.length := by simpa [hXl] using hi
  obtain ⟨x, hx⟩ := getq i0 hlt
  have hxX := List.mem_of_getElem? hx
  obtain ⟨x0, x1⟩ := hlt_ x hxX
  have rd : ∀ {K : Addr → Prop}, (∀ p, AtC w6 p (ci x) → K p) → ix r12 i 1 K := fun kk => (hX.keepQ q6).ix i0 hlt fun p y hy hat _ => by
    rw [hx] at hy
    injection hy with hy
    subst hy
    exact kk p hat
  refine rd fun p hat => hat.ld0 rfl ((has_c w6 t m x (hm.keepQ qW6) (by omega)).use ?_)
  rintro r w16 ⟨rfl, rfl⟩
  refine rd fun p hat => hat.ld0 rfl ((h.keepQ qW6).ix x0 x1 fun p z fs hz hat hfs => hat.ld (j := 2) (x := fs) rfl ?_)
  have hzl := h40 z (List.mem_of_getElem? hz)
  refine ⟨fun (c : Bool × Int) w' => 0 ≤ c.2 ∧ c.2 ≤ z.frm.length ∧ (c.1 = true ↔ (x ∈ m ∨ ∃ f ∈ z.frm.take c.2.toNat, f ∈ X)) ∧ w6 = w', fun c _ => (z.frm.length - c.2).toNat, ⟨by simp, by simp, by simp, rfl⟩, ?_⟩
  rintro ⟨came, k⟩ w17 ⟨k0, k1, hcame, rfl⟩
  dsimp only at k0 k1 hcame ⊢
  refine ⟨fun hk => ?_, fun hk => ?_⟩
  · have hlt2 : k < z.frm.length := by simpa [hfs.len] using hk
    obtain ⟨f, hf'⟩ := getq k0 hlt2
    refine jn.mk (fun c w' => c = (came || decide (f ∈ X)) ∧ w6 = w') ⟨fun hc => ⟨by simp [hc], rfl⟩, fun hc => hfs.ix k0 hlt2 fun p g hg hat' _ => hat'.ld0 rfl ((has_c w6 r12 X g (hX.keepQ q6) (by omega)).use ?_)⟩ ?_
    · rintro r w18 ⟨rfl, rfl⟩
      rw [hf'] at hg
      injection hg with hg
      subst hg
      exact ⟨by simp [hc], rfl⟩
    · rintro c w19 ⟨rfl, rfl⟩
      rw [w64 (by omega) (by omega)]
      refine ⟨⟨by (try dsimp only); omega, by (try dsimp only); omega, ?_, rfl⟩, by (try dsimp only); omega⟩
      rw [show ((came || decide (f ∈ X)), k + 1).2.toNat = k.toNat + 1 by (try dsimp only); omega, take_next hf']
      rw [Bool.or_eq_true, hcame, decide_eq_true_eq]
      constructor
      · rintro ((e | ⟨g, hg, hgX⟩) | e)
        · exact .inl e
        · exact .inr ⟨g, List.mem_append.2 (.inl hg), hgX⟩
        · exact .inr ⟨f, by simp, e⟩
      · rintro (e | ⟨g, hg, hgX⟩)
        · exact .inl (.inl e)
        · rcases List.mem_append.1 hg with e | e
          · exact .inl (.inr ⟨g, e, hgX⟩)
          · simp at e
            exact .inr (e ▸ hgX)
  have hge : z.frm.length ≤ k.toNat := by simp [hfs.len] at hk; omega
  rw [List.take_of_length_le hge] at hcame
  have hct : came = true := hcame.2 (by
    have := (hiff x.toNat z hz).1 (by rw [show ((x.toNat : Nat) : Int) = x by omega]; exact hxX)
    rwa [show ((x.toNat : Nat) : Int) = x by omega] at this)
  refine ⟨fun hc => absurd hc (by simp [hct]), fun _ => ?_⟩
  refine jn.mk (fun c w' => (c = true ↔ (all = true ∧ Closed l set)) ∧ w6 = w') ⟨fun hc => (closed_c w6 s u l set (h.keepQ qW6) (hu.keepQ qW6) (by omega) hf40 (by omega)).use ?_, fun hc => ⟨by simp [hc], rfl⟩⟩ ?_
  · rintro r w20 ⟨hr, rfl⟩
    exact ⟨by rw [hr]; simp [hc], rfl⟩
  rintro c w21 ⟨hc81, rfl⟩
  refine jn.mk (fun c w' => c = false ∧ w6 = w') ⟨fun hc => rd fun p hat => hat.ld0 rfl ((has_c w6 u set x (hu.keepQ qW6) (by omega)).use ?_), fun hc => ⟨rfl, rfl⟩⟩ ?_
  · rintro r w22 ⟨rfl, rfl⟩
    obtain ⟨ha, hcs⟩ := hc81.1 hc
    have := hleast (hall.1 ha) hcs (x.toNat + 1) x.toNat (by omega) (by rw [show ((x.toNat : Nat) : Int) = x by omega]; exact hxX)
    rw [show ((x.toNat : Nat) : Int) = x by omega] at this
    exact ⟨by simp [this], rfl⟩
  rintro c w23 ⟨rfl, rfl⟩
  refine ⟨fun hc => absurd hc (by decide), fun _ => ?_⟩
  rw [w64 (by omega) (by omega)]
  exact ⟨⟨by omega, by omega, rfl⟩, by (try dsimp only); omega⟩
end Go.Proofs.Ytjmjackeeiglmaa
