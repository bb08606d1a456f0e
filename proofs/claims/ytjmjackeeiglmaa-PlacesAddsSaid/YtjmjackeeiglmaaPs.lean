import Derived.Test.YtjmjackeeiglmaaPu
namespace Go.Proofs.Ytjmjackeeiglmaa
open Go.Dec Go.RowKit
set_option maxHeartbeats 400000

theorem mem_marks {m : List Int} {n : Nat} {x : Int} : x ∈ idx 0 (marks m n) ↔ (0 ≤ x ∧ x < n) ∧ x ∈ m := by
  rw [mem_idx, Int.sub_zero]
  constructor
  · rintro ⟨h0, h1⟩
    have hlt := (List.getElem?_eq_some_iff.1 h1).1
    rw [marks_len] at hlt
    rw [marks_get hlt] at h1
    have : ((x.toNat : Nat) : Int) = x := by omega
    rw [this] at h1
    exact ⟨⟨h0, by omega⟩, by simpa using h1⟩
  · rintro ⟨⟨h0, h1⟩, h2⟩
    refine ⟨h0, ?_⟩
    rw [marks_get (by omega), show ((x.toNat : Nat) : Int) = x by omega]
    simp [h2]
theorem desc_idx (k : Int) (bs : List Bool) : (idx k bs).reverse.Pairwise (fun a b => b < a) := List.pairwise_reverse.2 (idx_sorted k bs)
theorem desc_take {X : List Int} (h : X.Pairwise (fun a b => b < a)) {n : Nat} {f i : Int} (hf : f ∈ X.take n) (hi : i ∈ X) (hlt : f < i) : i ∈ X.take n := by
  have h' : (X.take n ++ X.drop n).Pairwise (fun a b => b < a) := by rw [List.take_append_drop]; exact h
  have hi' : i ∈ X.take n ++ X.drop n := by rw [List.take_append_drop]; exact hi
  rcases List.mem_append.1 hi' with e | e
  · exact e
  · have := (List.pairwise_append.1 h').2.2 f hf i e
    omega

theorem orders (W : World) (s : Sl) (l : List Pl) (h : RdP W s l) (hl : l.length ≤ maxLen) (hfr : ∀ p ∈ l, p.frm.length ≤ maxLen)
    (t : Sl) (m : List Int) (hm : Rd W ci 1 t m) (_ : ∀ ad, t.a = some ad → 0 < m.length → ad.block < W.heap.size) (_ : m.length ≤ maxLen)
    (many : Int) (n0 : 0 ≤ many) (n1 : many ≤ 255) :
    callC Try.prog 5 #[s.v, t.v, .int .u8 many] (fun (r : Bool) => .bool r) W fun r w' => r = true ∧ Below W.heap.size W w' := by
  have hsl := h.len
  have htl := hm.len
  have hl' : l.length ≤ 9223372036854775807 := by unfold maxLen at hl; omega
  have hfr' : ∀ p ∈ l, p.frm.length ≤ 9223372036854775807 := fun p hp => by have := hfr p hp; unfold maxLen at this; omega
  refine D5 _ _ _ W _ ?_
  unfold F5
  refine (small_c W).use ?_
  rintro r w1 ⟨rfl, q1⟩
  refine (few_c w1 s l 30 (h.keepQ q1) (by decide) (by decide) hl').use ?_
  rintro r w2 ⟨hfew, rfl⟩
  refine jn.mk (fun c w' => (c = false → ((l.length : Int) ≤ 30 ∧ ∀ p ∈ l, p.frm.length ≤ 40) ∧ m.length ≤ 40 ∧ RtP l) ∧ Quiet w1 w') ⟨fun _ => ⟨fun e => (by cases e), Only.refl _ _⟩, fun hc => (right_c w1 s l (h.keepQ q1) hl' hfr').use ?_⟩ ?_
  · rintro a w3 ⟨ha, q3⟩
    rw [htl] at hc
    simp at hc
    exact ⟨fun e => ⟨hfew hc.1, by omega, ha.1 (by simpa using e)⟩, q3⟩
  rintro c w4 ⟨hc4, q4⟩
  have qa := q1.tr q4
  refine ⟨fun _ => ⟨rfl, bq qa⟩, fun hc => ?_⟩
  obtain ⟨⟨h30, h40⟩, hm40, hR⟩ := hc4 hc
  have args : ∀ {w' : World} {t' : Sl} {m' : List Int}, Quiet W w' → Rd w' ci 1 t' m' → m'.length ≤ 1000000 → Args w' s l t' m' := fun q hr hk => ⟨h.keepQ q, hr, hl', fun p hp => by have := h40 p hp; omega, hk⟩
  refine (order_c w4 s t l m (args qa (hm.keepQ qa) (by omega))).use ?_
  rintro r10 w5 ⟨F, o5, f5⟩
  have qb := qa.tr f5.q
  unfold orderP at o5
  rw [if_pos hR] at o5
  have hX := o5.rd ci1 (by decide)
  have hXl := hX.len
  have hil := idx_len 0 (marks m l.length)
  rw [marks_len] at hil
  have hsort := desc_idx 0 (marks m l.length)
  have hmem : ∀ x, x ∈ (idx 0 (marks m l.length)).reverse ↔ (0 ≤ x ∧ x < l.length) ∧ x ∈ m := fun x => by rw [List.mem_reverse]; exact mem_marks
  rw [← List.length_reverse] at hil
  generalize (idx 0 (marks m l.length)).reverse = X at *
  -- descending, in range, named
  refine ⟨fun i w' => 0 ≤ i ∧ i ≤ X.length ∧ Quiet w5 w', fun i _ => (X.length - i).toNat, ⟨by omega, by omega, Only.refl _ _⟩, ?_⟩
  rintro i w6 ⟨i0, i1, q6⟩
  refine ⟨fun hi => ?_, fun hi => ?_⟩
  · have hlt : i < X.length := by simpa [hXl] using hi
    obtain ⟨x, hx⟩ := getq i0 hlt
    obtain ⟨⟨x0, x1⟩, hxm⟩ := (hmem x).1 (List.mem_of_getElem? hx)
    have qd : Quiet w5 w6.drew := q6.tr (Only.drew _ _)
    have rd : ∀ {K : Addr → Prop}, (∀ p, AtC w6.drew p (ci x) → K p) → ix r10 i 1 K := fun kk => (hX.keepQ qd).ix i0 hlt fun p y hy hat _ => by
      rw [hx] at hy
      injection hy with hy
      subst hy
      exact kk p hat
    refine jn.mk (fun c w' => c = false ∧ Quiet w5 w') ?_ ?_
    · show tk w6 _
      unfold tk
      refine rd fun p hat => hat.ld0 rfl ⟨fun hc => absurd hc (by simp; omega), fun _ => rd fun p' hat' => hat'.ld0 rfl ⟨fun hc => absurd hc (by rw [hsl]; simp; omega), fun _ => rd fun p2 hat2 => hat2.ld0 rfl ?_⟩⟩
      refine (has_c _ t m x (hm.keepQ (qb.tr qd)) (by omega)).use ?_
      rintro r w9 ⟨rfl, rfl⟩
      have ce : ∀ {p : Addr}, AtC w6.drew p (ci x) → w6.drew.cell? p = some (.int .i64 x) := fun hat => by have := hat 0 _ rfl; rwa [add_zero'] at this
      refine ⟨ce hat', ce hat, ⟨fun hc => absurd hc (by simp [hxm]), fun _ => ⟨fun hc => ?_, fun _ => ⟨rfl, qd⟩⟩⟩⟩
      have hi0 : 0 < i := by simpa using hc
      rw [w64 (x := i - 1) (by omega) (by omega)]
      refine (hX.keepQ qd).ix (by omega) (by omega) fun p y hy hat2 _ => hat2.ld0 rfl (rd fun p hat => hat.ld0 rfl ⟨?_, qd⟩)
      obtain ⟨a1, a2⟩ := List.getElem?_eq_some_iff.1 hx
      obtain ⟨b1, b2⟩ := List.getElem?_eq_some_iff.1 hy
      have := List.pairwise_iff_getElem.1 hsort (i - 1).toNat i.toNat b1 a1 (by omega)
      rw [a2, b2] at this
      simp
      omega
    · rintro c w8 ⟨rfl, q8⟩
      refine ⟨fun hc => absurd hc (by decide), fun _ => ?_⟩
      rw [w64 (by omega) (by omega)]
      exact ⟨⟨by omega, by omega, q8⟩, by (try dsimp only); omega⟩
  clear i0 i1 hi
  have qW6 := qb.tr q6
  -- what is named is in it
  refine ⟨fun i w' => 0 ≤ i ∧ i ≤ m.length ∧ w6 = w', fun i _ => (m.length - i).toNat, ⟨by omega, by omega, rfl⟩, ?_⟩
  rintro i w9 ⟨i0, i1, rfl⟩
  refine ⟨fun hi => ?_, fun hi => ?_⟩
  · have hlt : i < m.length := by simpa [htl] using hi
    obtain ⟨x, hx⟩ := getq i0 hlt
    have rd : ∀ {K : Addr → Prop}, (∀ p, AtC w6 p (ci x) → K p) → ix t i 1 K := fun kk => (hm.keepQ qW6).ix i0 hlt fun p y hy hat _ => by
      rw [hx] at hy
      injection hy with hy
      subst hy
      exact kk p hat
    refine rd fun p hat => hat.ld0 rfl ?_
    refine jp.val (decide (0 ≤ x) && decide (x < (s.len : Int))) ⟨fun hc => rd fun p hat => hat.ld0 rfl (by simp [hc]), fun hc => by simp [hc]⟩ ?_
    refine jn.mk (fun c w' => c = false ∧ w6 = w') ⟨fun hc => rd fun p hat => hat.ld0 rfl ((has_c w6 r10 X x (hX.keepQ q6) (by omega)).use ?_), fun hc => ⟨rfl, rfl⟩⟩ ?_
    · rintro r w10 ⟨rfl, rfl⟩
      have hx' : 0 ≤ x ∧ x < l.length := by rw [hsl] at hc; simpa using hc
      exact ⟨by simp [(hmem x).2 ⟨hx', List.mem_of_getElem? hx⟩], rfl⟩
    rintro c w11 ⟨rfl, rfl⟩
    refine ⟨fun hc => absurd hc (by decide), fun _ => ?_⟩
    rw [w64 (by omega) (by omega)]
    exact ⟨⟨by omega, by omega, rfl⟩, by (try dsimp only); omega⟩
  clear i0 i1 hi
  -- erased in its order
  refine (reach_c w6 s t l m (args qW6 (hm.keepQ qW6) (by omega))).use ?_
  rintro r70 w14 ⟨F14, o14, f14⟩
  have qc := qW6.tr f14.q
  unfold reachP at o14
  rw [if_pos hR] at o14
  have hil2 := idx_len 0 (fl m l)
  rw [fl_len] at hil2
  refine (order_c w14 s r70 l _ (args qc (o14.rd ci1 (by decide)) (by omega))).use ?_
  rintro r71 w15 ⟨F15, o15, f15⟩
  have qd := qc.tr f15.q
  unfold orderP at o15
  rw [if_pos hR] at o15
  have hY := o15.rd ci1 (by decide)
  have hYl := hY.len
  have hsortY := desc_idx 0 (marks (idx 0 (fl m l)) l.length)
  have hmemY : ∀ x, x ∈ (idx 0 (marks (idx 0 (fl m l)) l.length)).reverse ↔ x ∈ idx 0 (fl m l) := fun x => by
    rw [List.mem_reverse, mem_marks]
    exact ⟨fun e => e.2, fun e => ⟨reach_lt e, e⟩⟩
  have hilY := idx_len 0 (marks (idx 0 (fl m l)) l.length)
  rw [marks_len, ← List.length_reverse] at hilY
  have hcap : r71.len ≤ r71.cap := by
    rcases o15.own.form with ⟨e, _⟩ | ⟨_, _, _, _, e, _⟩
    · rw [e]; exact Nat.le_refl _
    · exact e
  generalize (idx 0 (marks (idx 0 (fl m l)) l.length)).reverse = Y at *
  rw [w64 (x := many) (by omega) (by omega)]
  refine rn_upto ap23 hY hcap (by omega) (by omega) fun r72 hZ _ _ => ?_
  have hclosed : ∀ (i : Nat) (p : Pl), l[i]? = some p → ∀ f ∈ p.frm, f ∈ Y.take (min (r71.len : Int) many).toNat → (i : Int) ∈ Y.take (min (r71.len : Int) many).toNat := fun i p hp f hf hfY => by
    have hfX := (hmemY f).1 (List.mem_of_mem_take hfY)
    refine desc_take hsortY hfY ((hmemY _).2 ((reach_iff hR hp).2 (.inr ⟨f, hf, hfX⟩))) ?_
    exact ((hR.ok i p hp).mem hf).2
  have hZl : (Y.take (min (r71.len : Int) many).toNat).length ≤ 1000000 := by rw [List.length_take]; omega
  generalize Y.take (min (r71.len : Int) many).toNat = Z at *
  refine ⟨fun i w' => 0 ≤ i ∧ i ≤ l.length ∧ w15 = w', fun i _ => (l.length - i).toNat, ⟨by omega, by omega, rfl⟩, ?_⟩
  rintro i w17 ⟨i0, i1, rfl⟩
  refine ⟨fun hi => ?_, fun hi => ⟨rfl, bq qd⟩⟩
  have hlt : i < l.length := by simpa [hsl] using hi
  obtain ⟨x, hx⟩ := getq i0 hlt
  have hxl := h40 x (List.mem_of_getElem? hx)
  have rd : ∀ {K : Addr → Prop}, (∀ p fs, AtC w15 p [.int .i64 x.kind, .int .i64 x.id, fs.v] → Rd w15 ci 1 fs x.frm → K p) → ix s i 3 K := fun kk => (h.keepQ qd).ix i0 hlt fun p y fs hy hat hfs => by
    rw [hx] at hy
    injection hy with hy
    subst hy
    exact kk p fs hat hfs
  refine ⟨fun k w' => 0 ≤ k ∧ k ≤ x.frm.length ∧ w15 = w', fun k _ => (x.frm.length - k).toNat, ⟨by omega, by omega, rfl⟩, ?_⟩
  rintro k w18 ⟨k0, k1, rfl⟩
  refine rd fun p fs hat hfs => hat.ld (j := 2) (x := fs) rfl ⟨fun hc => ?_, fun hc => ?_⟩
  · have hlt2 : k < x.frm.length := by simpa [hfs.len] using hc
    obtain ⟨f, hf'⟩ := getq k0 hlt2
    refine rd fun p fs hat hfs => hat.ld (j := 2) (x := fs) rfl (hfs.ix k0 hlt2 fun p' g hg hat' _ => hat'.ld0 rfl ?_)
    rw [hf'] at hg
    injection hg with hg
    subst hg
    refine (has_c w15 r72 Z f hZ hZl).use ?_
    rintro r w19 ⟨rfl, rfl⟩
    refine jn.mk (fun c w' => c = false ∧ w15 = w') ⟨fun hc => (has_c w15 r72 Z i hZ hZl).use ?_, fun hc => ⟨rfl, rfl⟩⟩ ?_
    · rintro r w20 ⟨rfl, rfl⟩
      have hfZ : f ∈ Z := by simpa using hc
      have := hclosed i.toNat x hx f (List.mem_of_getElem? hf') hfZ
      rw [show ((i.toNat : Nat) : Int) = i by omega] at this
      exact ⟨by simp [this], rfl⟩
    rintro c w21 ⟨rfl, rfl⟩
    refine ⟨fun hc => absurd hc (by decide), fun _ => ?_⟩
    rw [w64 (by omega) (by omega)]
    exact ⟨⟨by omega, by omega, rfl⟩, by (try dsimp only); omega⟩
  · rw [w64 (by omega) (by omega)]
    exact ⟨⟨by omega, by omega, rfl⟩, by (try dsimp only); omega⟩
end Go.Proofs.Ytjmjackeeiglmaa
