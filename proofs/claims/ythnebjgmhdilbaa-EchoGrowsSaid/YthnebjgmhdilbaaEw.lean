import Derived.Test.YthnebjgmhdilbaaEq
namespace Go.Proofs.Ythnebjgmhdilbaa
open Go.Dec Go.RowKit
set_option maxHeartbeats 400000

abbrev nof : Int → Bool := fun _ => false
theorem okP_nof (l : List Cp) (c : Cp) (near : Int) {i : Nat} {x : Cp} (h : l[i]? = some x) : okP l c near nof i = decide (may x c near) := by
  unfold okP
  rw [h]
  simp
theorem matchP_nof (l : List Cp) (c : Cp) (near : Int) : matchP l c near = (max (lastOf l c near nof) 0, decide (0 ≤ lastOf l c near nof)) := rfl
theorem lastP_ge (ok : Nat → Bool) : ∀ n, -1 ≤ lastP ok n := fun n => (lastP_rng ok n).1
theorem grow1 (m l : List Cp) (c : Cp) (near : Int) (h : 0 ≤ lastOf l c near nof) : lastOf (m ++ l) c near nof = lastOf l c near nof + m.length := by
  unfold lastOf at h ⊢
  have e : ∀ i, okP (m ++ l) c near nof (i + m.length) = okP l c near nof i := fun i => by
    unfold okP
    rw [List.getElem?_append_right (by omega), Nat.add_sub_cancel]
  rcases lastP_spec (okP l c near nof) l.length with ⟨h1, _⟩ | ⟨i, h1, h2, h3, h4⟩
  · omega
  · rw [h2, lastP_is (i := i + m.length) (by simp; omega) (by rw [e]; exact h3) fun j h5 h6 => ?_]
    · omega
    · simp at h6
      have := e (j - m.length)
      rw [show j - m.length + m.length = j by omega] at this
      rw [this]
      exact h4 _ (by omega) (by omega)
theorem grow2 (l o : List Cp) (c : Cp) (near : Int) (h : ∀ x ∈ o, ¬ may x c near) : lastOf (l ++ o) c near nof = lastOf l c near nof := by
  unfold lastOf
  have e : ∀ i, i < l.length → okP (l ++ o) c near nof i = okP l c near nof i := fun i hi => by
    unfold okP
    rw [List.getElem?_append_left hi]
  have e2 : ∀ i, l.length ≤ i → okP (l ++ o) c near nof i = false := fun i hi => by
    unfold okP
    rw [List.getElem?_append_right hi]
    cases hx : o[i - l.length]? with
    | none => rfl
    | some x =>
      have := h x (List.mem_of_getElem? hx)
      simp [this]
  rcases lastP_spec (okP l c near nof) l.length with ⟨h1, h2⟩ | ⟨i, h1, h2, h3, h4⟩
  · rw [h1]
    exact lastP_no fun j _ => by
      by_cases g : j < l.length
      · rw [e j g]; exact h2 j g
      · exact e2 j (by omega)
  · rw [h2]
    exact lastP_is (by simp; omega) (by rw [e i h1]; exact h3) fun j g1 g2 => by
      by_cases g : j < l.length
      · rw [e j g]; exact h4 j g1 g
      · exact e2 j (by omega)
theorem grow3 (l : List Cp) (c : Cp) {near far : Int} (hn : near ≤ far) (h : 0 ≤ lastOf l c near nof) : 0 ≤ lastOf l c far nof := by
  unfold lastOf at h ⊢
  rcases lastP_spec (okP l c near nof) l.length with ⟨h1, _⟩ | ⟨i, h1, h2, h3, h4⟩
  · omega
  obtain ⟨x, hx⟩ : ∃ x, l[i]? = some x := ⟨_, List.getElem?_eq_getElem h1⟩
  rw [okP_nof l c near hx] at h3
  obtain ⟨a, b, d, e, f⟩ := of_decide_eq_true h3
  have h5 : okP l c far nof i = true := by
    rw [okP_nof l c far hx]
    exact decide_eq_true ⟨by omega, b, d, e, by omega⟩
  rcases lastP_spec (okP l c far nof) l.length with ⟨_, h6⟩ | ⟨k, _, h6, _, _⟩
  · rw [h6 i h1] at h5
    cases h5
  · omega
def odd1 (c : Cp) (near : Int) (x : Cp) : Bool := decide (c.step < x.step ∨ near < c.step - x.step ∨ scoreP x c < 3)
def oddP (c : Cp) (near : Int) (l : List Cp) : List Cp := l.filter (odd1 c near)
theorem odd_may {c x : Cp} {near : Int} {l : List Cp} (h : x ∈ oddP c near l) : ¬ may x c near := by
  have := (List.mem_filter.1 h).2
  have := of_decide_eq_true this
  rintro ⟨a, b, d, e, f⟩
  rw [(score_3 x c).2 b] at this
  omega
def CellsB (w : World) (b : Nat) (c : Cp) : Prop := w.cell? ((Addr.mk b 0 none).add 0) = some (Value.int .i64 c.acc) ∧ w.cell? ((Addr.mk b 0 none).add 1) = some (Value.int .i64 c.grp) ∧ w.cell? ((Addr.mk b 0 none).add 2) = some (Value.int .i64 c.step) ∧ w.cell? ((Addr.mk b 0 none).add 3) = some (Value.int .i64 c.on) ∧ w.cell? ((Addr.mk b 0 none).add 4) = some (Value.int .i64 c.quote)
theorem IsB.cells {w : World} {b : Nat} {c : Cp} (h : IsB w b c) : CellsB w b c := ⟨h.at.cj rfl, h.at.cj rfl, h.at.cj rfl, h.at.cj rfl, h.at.cj rfl⟩
theorem two_copy {w : World} {b1 : Nat} {c : Cp} {u v : Sl} {l m : List Cp} {K : Sl → World → Prop} (hb : IsB w b1 c) (h : Rd w cp 5 u l) (h' : Rd w cp 5 v m) (hl : l.length ≤ 1000) (hm : m.length ≤ 1000)
    (k : ∀ r w', Rd w' cp 5 r (l ++ m) → Quiet w w' → K r w') :
    nw 30 #[] w fun b w12 => CellsB w12 b1 c ∧ rn Try.prog (Builtin.append_ #[22, 22] 22 #[Sl.v (⟨some ⟨b, 0, none⟩, 0, 0⟩ : Sl), Sl.v u]) Sl.v w12 fun r38 w13 => CellsB w13 b1 c ∧
      rn Try.prog (Builtin.append_ #[22, 22] 22 #[Sl.v r38, Sl.v v]) Sl.v w13 fun r39 w14 => CellsB w14 b1 c ∧ K r39 w14 := by
  refine nwL fun b w1 hB q1 g1 _ l1 => ?_
  have hf : Fresh w w1 (fun x => x = b) := ⟨q1, fun x hx => by subst hx; exact ⟨g1, l1⟩⟩
  refine ⟨(hb.keepQ q1).cells, ?_⟩
  refine (empty_own hB).app ap22 (h.keepQ q1) cp5 (by decide) cpone (by simp; unfold maxLen; omega) (by simp; omega) fun r w2 F2 o2 e2 s2 => ?_
  have f2 := hf.stp s2
  refine ⟨(hb.keepQ f2.q).cells, ?_⟩
  simp at e2
  refine o2.app ap22 (h'.keepQ f2.q) cp5 (by decide) cpone (by rw [e2]; unfold maxLen; omega) (by rw [e2]; omega) fun r' w3 F3 o3 e3 s3 => ?_
  have f3 := f2.stp s3
  refine ⟨(hb.keepQ f3.q).cells, k r' w3 ?_ f3.q⟩
  rw [List.nil_append, ← List.flatMap_append] at o3
  exact o3.rd cp5 (by decide)

theorem growsL_c (w : World) (s t : Sl) (l m : List Cp) (c : Cp) (near wide : Int) (h : Rd w cp 5 s l) (h' : Rd w cp 5 t m) (hl : l.length ≤ maxLen) (hm : m.length ≤ maxLen) (hc : okC c) (hn0 : 0 ≤ near) (hn : near ≤ 65535) (hw0 : 0 ≤ wide) (hw : wide ≤ 65535) :
    callC Try.prog 5 #[s.v, t.v, cpv c, .int .u16 near, .int .u16 wide] (fun (r : Bool) => .bool r) w fun r w' => r = true ∧ Quiet w w' := by
  have hsl := h.len
  have htl := h'.len
  refine D5 _ _ _ _ _ _ _ _ _ w _ ?_
  unfold F5
  rw [w64 (x := near) (by omega) (by omega), w64 (x := wide) (by omega) (by omega), w64 (x := near + wide) (by omega) (by omega)]
  refine nwL fun b1 w1 hb1 q1 _ _ _ => ?_
  have hb : IsB w1 b1 c := hb1
  clear hb1
  refine (small_c w1).use ?_
  rintro r2 w2 ⟨rfl, q2⟩
  refine jn.mk (fun x w' => (x = false → l.length ≤ 40 ∧ m.length ≤ 20 ∧ calmP l) ∧ w2 = w') ⟨fun _ => ⟨fun e => by simp at e, rfl⟩, fun hc => ?_⟩ ?_
  · have hb : l.length ≤ 40 ∧ m.length ≤ 20 := by rw [hsl, htl] at hc; simp at hc; omega
    refine (calm_c w2 s l (h.keepQ (q1.tr q2)) (by omega)).use ?_
    rintro r6 w2 ⟨rfl, rfl⟩
    exact ⟨fun e => ⟨hb.1, hb.2, by simpa using e⟩, rfl⟩
  rintro c8 w4 ⟨hc8, rfl⟩
  refine jn.mk (fun x w' => (x = false → (l.length ≤ 40 ∧ m.length ≤ 20 ∧ calmP l) ∧ calmP m) ∧ w2 = w') ⟨fun _ => ⟨fun e => by simp at e, rfl⟩, fun hc => ?_⟩ ?_
  · have hb := hc8 hc
    refine (calm_c w2 t m (h'.keepQ (q1.tr q2)) (by omega)).use ?_
    rintro r6 w2 ⟨rfl, rfl⟩
    exact ⟨fun e => ⟨hb, by simpa using e⟩, rfl⟩
  rintro c12 w6 ⟨hc12, rfl⟩
  refine jn.mk (fun x w' => (x = false → ((l.length ≤ 40 ∧ m.length ≤ 20 ∧ calmP l) ∧ calmP m) ∧ calmP [c]) ∧ Quiet w2 w') ⟨fun _ => ⟨fun e => by simp at e, Only.refl _ _⟩, fun hc => ?_⟩ ?_
  · have hbb := hc12 hc
    refine ld5 (hb.keepQ q2).at (nwL fun b20 w7 hb20 q7 _ _ _ => ?_)
    have hr1 : Rd w7 cp 5 (⟨some ⟨b20, 0, none⟩, 1, 1⟩ : Sl) [c] := by
      refine ⟨rfl, fun i u hu => ⟨_, rfl, ?_⟩⟩
      match i, hu with
      | 0, hu =>
        cases hu
        have : IsB w7 b20 c := hb20
        have := this.at
        exact this
      | i + 1, hu => simp at hu
    refine (calm_c w7 _ [c] hr1 (by simp)).use ?_
    rintro r6 w8 ⟨rfl, rfl⟩
    exact ⟨fun e => ⟨hbb, by simpa using e⟩, q7⟩
  rintro c22 w9 ⟨hc22, q9⟩
  have q19 := q2.tr q9
  have q09 := q1.tr q19
  refine ⟨fun _ => ⟨rfl, q09⟩, fun g => ?_⟩
  obtain ⟨⟨⟨hb1, hb2, hs⟩, hs'⟩, hcc⟩ := hc22 g
  have hcs := hcc c (by simp)
  refine ld5 (hb.keepQ q19).at ((match_c w9 s l c near (h.keepQ q09) (by omega) hs.i hc.2.2.1 (by omega)).use ?_)
  rintro r29 w10 ⟨hr29, q10⟩
  have q110 := q19.tr q10
  have q010 := q1.tr q110
  have u2 : 0 ≤ lastOf l c near nof → lastOf (m ++ l) c near nof = lastOf l c near nof + m.length := grow1 m l c near
  have hrng : -1 ≤ lastOf l c near nof ∧ lastOf l c near nof < l.length := lastP_rng _ _
  refine jn.mk (fun x w' => x = matchP (m ++ l) c near ∧ Quiet w10 w') ?_ ?_
  · show tk w10 _
    unfold tk
    have qd : Quiet w10 w10.drew := Only.drew _ _
    refine ld5 ((hb.keepQ q110).keepQ qd).at (two_copy ((hb.keepQ q110).keepQ qd) ((h'.keepQ q010).keepQ qd) ((h.keepQ q010).keepQ qd) (by omega) (by omega) fun r w' hr q => ?_)
    refine (match_c w' r (m ++ l) c near hr (by simp; omega) (fun x hx => (List.mem_append.1 hx).elim (hs'.i x) (hs.i x)) hc.2.2.1 (by omega)).use ?_
    rintro r40 w15 ⟨rfl, q15⟩
    exact ⟨rfl, (qd.tr q).tr q15⟩
  rintro l41 w16 ⟨rfl, q16⟩
  have q116 := q110.tr q16
  refine ⟨fun g => ?_, fun _ => ?_⟩
  · refine absurd g ?_
    rw [hr29]
    rw [matchP_nof, matchP_nof, htl]
    by_cases e : 0 ≤ lastOf l c near nof
    · have e' := u2 e
      rw [w64 (by omega) (by omega)]
      have e2 : 0 ≤ lastOf (m ++ l) c near nof := by omega
      simp [e, e2]
      omega
    · simp [e]
  refine ⟨fun (x : Sl × Int) w' => 0 ≤ x.2 ∧ x.2 ≤ m.length ∧ ∃ F, OwnF w' F 30 5 x.1 ((oddP c near (m.take x.2.toNat)).flatMap cp) ∧ Fresh w16 w' F, fun x _ => (m.length - x.2).toNat, ⟨by simp, by simp, _, by simpa [oddP] using OwnF.nil _ _ _ _, Fresh.none _⟩, ?_⟩
  rintro ⟨out, i⟩ w17 ⟨i0, i1, F, ho, hf⟩
  dsimp only at i0 i1 ho ⊢
  have q117 := q116.tr hf.q
  have q017 := q1.tr q117
  have hol := (ho.rd cp5 (by decide)).len
  have hfl : (oddP c near (m.take i.toNat)).length ≤ m.length := by
    have := List.length_filter_le (odd1 c near) (m.take i.toNat)
    rw [List.length_take] at this
    unfold oddP
    omega
  refine ⟨fun hi => ?_, fun hi => ?_⟩
  · have hlt : i < m.length := by simpa [htl] using hi
    obtain ⟨x, hx⟩ := getq i0 hlt
    have hxs := hs' x (List.mem_of_getElem? hx)
    refine jn.mk (fun r w' => ∃ F, OwnF w' F 30 5 r ((oddP c near (m.take (i.toNat + 1))).flatMap cp) ∧ Fresh w16 w' F) ?_ ?_
    · rw [take_next hx]
      unfold oddP
      rw [List.filter_append]
      refine (h'.keepQ q017).ixx i0 hx fun p hp _ => ld5 hp (box5 fun b61 w20 hb61 q20 _ _ => ?_)
      have C := (hb.keepQ (q117.tr q20))
      refine hb61.at.ld (j := 2) rfl (C.at.ld (j := 2) rfl (jn.mk (fun r w' => r = decide (c.step < x.step ∨ near < c.step - x.step) ∧ w20 = w') ⟨fun g => ?_, fun g => C.at.ld (j := 2) rfl (hb61.at.ld (j := 2) rfl ?_)⟩ ?_))
      · exact ⟨(decide_eq_true (.inl (of_decide_eq_true g))).symm, rfl⟩
      · have := of_decide_eq_false g
        rw [w64 (by omega) (by omega)]
        refine ⟨?_, rfl⟩
        rw [decide_eq_decide]
        exact ⟨.inr, fun e => e.elim (fun e => absurd e this) id⟩
      rintro c69 w21 ⟨h69, rfl⟩
      refine jn.mk (fun r w' => r = odd1 c near x ∧ Quiet w20 w') ⟨fun g => ⟨?_, Only.refl _ _⟩, fun g => ld5 hb61.at (ld5 C.at ((score_c _ x c).use ?_))⟩ ?_
      · rw [h69] at g
        have := of_decide_eq_true g
        unfold odd1
        exact (decide_eq_true (by omega)).symm
      · rintro r82 w22 ⟨rfl, q22⟩
        rw [h69] at g
        have := of_decide_eq_false g
        refine ⟨?_, q22⟩
        unfold odd1
        rw [decide_eq_decide]
        omega
      rintro c83 w23 ⟨h83, q23⟩
      have q1723 := q20.tr q23
      refine ⟨fun g => ld5 (hb61.keepQ q23).at ?_, fun g => ⟨F, ?_, hf.keep q1723⟩⟩
      · refine OwnF.push (news := cp x) ap22 (ho.keepQ q1723) rfl rfl (by unfold maxLen; omega) (by omega) fun r w25 F' o25 _ st25 => ⟨F', ?_, (hf.keep q1723).stp st25⟩
        rw [h83] at g
        simpa [oddP, g] using o25
      · rw [h83] at g
        simpa [oddP, g] using ho.keepQ q1723
    · rintro r w18 ⟨F', o', f'⟩
      rw [w64 (by omega) (by omega)]
      refine ⟨⟨by (try dsimp only); omega, by (try dsimp only); omega, F', ?_, f'⟩, by (try dsimp only); omega⟩
      show OwnF w18 F' 30 5 r ((oddP c near (m.take (i + 1).toNat)).flatMap cp)
      rw [toNat_succ i0]
      exact o'
  · have hod := ho.rd cp5 (by decide)
    generalize hmi : m.take i.toNat = mi at *
    have u3 := grow2 l (oddP c near mi) c near fun x hx => odd_may hx
    have hmm : ∀ x ∈ oddP c near mi, i64 x.step := fun x hx => hs'.i x (List.mem_of_mem_take (hmi ▸ (List.mem_filter.1 hx).1))
    refine jn.mk (fun x w' => x = matchP (l ++ oddP c near mi) c near ∧ Quiet w17 w') ?_ ?_
    · show tk w17 _
      unfold tk
      have qd : Quiet w17 w17.drew := Only.drew _ _
      refine ld5 ((hb.keepQ q117).keepQ qd).at (two_copy ((hb.keepQ q117).keepQ qd) ((h.keepQ q017).keepQ qd) (hod.keepQ qd) (by omega) (by omega) fun r w' hr q => ?_)
      refine (match_c w' r (l ++ oddP c near mi) c near hr (by simp; omega) (fun x hx => (List.mem_append.1 hx).elim (hs.i x) (hmm x)) hc.2.2.1 (by omega)).use ?_
      rintro r40 w15 ⟨rfl, q15⟩
      exact ⟨rfl, (qd.tr q).tr q15⟩
    rintro l103 w31 ⟨rfl, q31⟩
    refine ld5 (hb.keepQ (q117.tr q31)).at ((match_c w31 s l c (near + wide) (h.keepQ (q017.tr q31)) (by omega) hs.i hc.2.2.1 (by omega)).use ?_)
    rintro r109 w32 ⟨rfl, q32⟩
    refine ⟨?_, (q017.tr q31).tr q32⟩
    have u4 := grow3 l c (near := near) (far := near + wide) (by omega)
    rw [hr29]
    rw [matchP_nof, matchP_nof, matchP_nof, u3]
    by_cases e : 0 ≤ lastOf l c near nof
    · simp [e, u4 e]
    · simp [e]
theorem grows (W : World) (s : Sl) (l : List Cp) (hr : Rd W cp 5 s l) (_ : ∀ ad, s.a = some ad → 0 < l.length → ad.block < W.heap.size) (hl : l.length ≤ maxLen) (_ : ∀ x ∈ l, okC x)
    (t : Sl) (m : List Cp) (hr' : Rd W cp 5 t m) (_ : ∀ ad, t.a = some ad → 0 < m.length → ad.block < W.heap.size) (hl' : m.length ≤ maxLen) (_ : ∀ x ∈ m, okC x) (c : Cp) (hc : okC c) (near : Int) (h1 : 0 ≤ near) (h2 : near ≤ 65535) (far : Int) (h3 : 0 ≤ far) (h4 : far ≤ 65535) :
    callC Try.prog 5 #[s.v, t.v, cpv c, .int .u16 near, .int .u16 far] (fun (r : Bool) => .bool r) W fun r w' => r = true ∧ Below W.heap.size W w' :=
  (growsL_c W s t l m c near far hr hr' hl hl' hc h1 h2 h3 h4).use fun _ _ h => ⟨h.1, bq h.2⟩
end Go.Proofs.Ythnebjgmhdilbaa
