import Derived.Test.YtgbhghoppjfofaaGreatRk
namespace Go.Proofs.YtgbhghoppjfofaaGreat
open Go.Dec Go.RowKit Go.Top
set_option maxHeartbeats 1000000
set_option maxRecDepth 10000

theorem ranks_c (w : World) (s t : Sl) (bs : List Br) (op : List Nat) (nets : Int) (h : Rd w br 3 s bs) (ho : Rd w ci 1 t (casts op)) (hv : VB bs nets) (hop : ∀ i ∈ op, i < bs.length) (hol : op.length ≤ 1000) :
    callC Tryz.prog 35 #[s.v, t.v, .int .i64 nets] (fun (r : Sl) => Sl.v r) w fun r w' => ∃ (F : Nat → Prop) (xs : List Int), OwnF w' F 3 1 r (xs.flatMap ci) ∧ Fresh w w' F := by
  obtain ⟨⟨n1, n2⟩, hbl, hbr⟩ := hv
  have hsl := h.len
  have htl := ho.len
  rw [casts_len] at htl
  obtain ⟨n, rfl⟩ := Int.eq_ofNat_of_zero_le (show 0 ≤ nets by omega)
  refine D35 _ _ _ w _ ?_
  unfold F35
  refine rn_makeN (c := ci) (x := (0 : Int)) apI zvI rfl ci1 (by unfold maxLen; omega) (by omega) fun r9 w1 F o1 _ f1 => ?_
  refine ⟨fun i w' => 0 ≤ i ∧ i ≤ n ∧ ∃ xs : List Int, xs.length = n ∧ (∀ x ∈ xs, 0 ≤ x ∧ x ≤ i * 1000) ∧ OwnF w' F 3 1 r9 (xs.flatMap ci) ∧ Fresh w w' F, fun i _ => ((n : Int) - i).toNat, ⟨Int.le_refl _, by omega, List.replicate n 0, by simp, fun x hx => ?_, o1, f1⟩, ?_⟩
  · have := List.eq_of_mem_replicate hx
    subst this
    omega
  rintro i w2 ⟨i0, i1, xs, hxl, hxr, o2, f2⟩
  refine ⟨fun hi => ?_, fun hi => ⟨F, xs, o2, f2⟩⟩
  have hi := of_decide_eq_true hi
  refine ⟨fun j w' => 0 ≤ j ∧ j ≤ op.length ∧ ∃ xs : List Int, xs.length = n ∧ (∀ x ∈ xs, 0 ≤ x ∧ x ≤ i * 1000 + j) ∧ OwnF w' F 3 1 r9 (xs.flatMap ci) ∧ Fresh w w' F, fun j _ => ((op.length : Int) - j).toNat, ⟨Int.le_refl _, by omega, xs, hxl, fun x hx => by have := hxr x hx; omega, o2, f2⟩, ?_⟩
  rintro j w3 ⟨j0, j1, ys, hyl, hyr, o3, f3⟩
  refine ⟨fun hj => ?_, fun hj => ?_⟩
  · have hlt : j < op.length := by have := of_decide_eq_true hj; omega
    obtain ⟨k, hk⟩ := getq j0 hlt
    have hkl := hop k (List.mem_of_getElem? hk)
    obtain ⟨b, hb⟩ : ∃ b, bs[k]? = some b := ⟨_, List.getElem?_eq_getElem hkl⟩
    have hbv := hbr b (List.mem_of_getElem? hb)
    refine (ho.keepQ f3.q).ixx j0 (x := (k : Int)) (casts_at hk) fun p hat _ => hat.ld0 rfl ((h.keepQ f3.q).ixx (by omega) (x := b) (by simpa using hb) fun p2 hat2 _ => br_ld hat2 (br_box (x := b) fun bb w5 hbb q5 _ _ => ?_))
    refine jn.mk (fun _ w' => ∃ xs : List Int, xs.length = n ∧ (∀ x ∈ xs, 0 ≤ x ∧ x ≤ i * 1000 + (j + 1)) ∧ OwnF w' F 3 1 r9 (xs.flatMap ci) ∧ Fresh w w' F) ?_ ?_
    · show tk _ _
      unfold tk
      have qd : Quiet w5 w5.drew := Only.drew _ _
      have A := (hbb.keepQ qd).at
      have o5 := o3.keepQ (q5.tr qd)
      have hR := o5.rd ci1 (by decide)
      obtain ⟨y, hy⟩ := getq (l := ys) (i := b.dst) hbv.2.1 (by omega)
      obtain ⟨z, hz⟩ := getq (l := ys) (i := b.src) hbv.1.1 (by omega)
      have hyv := hyr y (List.mem_of_getElem? hy)
      have hzv := hyr z (List.mem_of_getElem? hz)
      refine A.ld (j := 1) rfl (A.ld (j := 1) rfl (hR.ixx hbv.2.1 hy fun p3 hat3 _ => hat3.ld0 rfl (A.ld (j := 0) rfl (hR.ixx hbv.1.1 hz fun p4 hat4 _ => hat4.ld0 rfl ?_))))
      rw [w64 (by omega) (by omega)]
      refine OwnF.put (y := max y (z + 1)) o5 ci1 hbv.2.1 (by omega) (by decide) fun w7 o7 on7 s7 => ⟨_, by simp [hyl], fun x hx => ?_, o7, (f3.keep (q5.tr qd)).only on7⟩
      rcases List.mem_or_eq_of_mem_set hx with hx | rfl
      · have := hyr x hx
        omega
      · omega
    rintro _ w8 ⟨zs, h1, h2, h3⟩
    rw [w64 (by omega) (by omega)]
    exact ⟨⟨by omega, by omega, zs, h1, h2, h3⟩, by (try dsimp only); omega⟩
  · rw [w64 (by omega) (by omega)]
    refine ⟨⟨by omega, by omega, ys, hyl, fun x hx => ?_, o3, f3⟩, by (try dsimp only); omega⟩
    have := hyr x hx
    omega
theorem ownb_lt {bs : List Br} {op0 : List Nat} (h : ∀ i ∈ op0, i < bs.length) : ∀ n, (∀ i ∈ (ownb bs op0 n).1, i < bs.length) ∧ (ownb bs op0 n).1.length ≤ op0.length + n ∧ (ownb bs op0 n).2.length ≤ n
  | 0 => ⟨h, by simp [ownb], by simp [ownb]⟩
  | n + 1 => by
    obtain ⟨h1, h2, h3⟩ := ownb_lt h n
    unfold ownb
    cases hb : bs[n]? with
    | none => exact ⟨h1, by simp only; omega, by simp only; omega⟩
    | some b =>
      have hn := (List.getElem?_eq_some_iff.1 hb).1
      simp only
      split
      · split
        · exact ⟨h1, by simp only; omega, by simp; omega⟩
        · refine ⟨fun i hi => ?_, by simp; omega, by simp only; omega⟩
          rcases List.mem_append.1 hi with hi | hi
          · exact h1 i hi
          · simp at hi
            omega
      · exact ⟨h1, by omega, by omega⟩
theorem forg_len {bs : List Br} : ∀ n, (forg bs n).length ≤ n
  | 0 => by simp [forg]
  | n + 1 => by
    have := forg_len (bs := bs) n
    unfold forg
    split
    · split
      · omega
      · simp
        omega
    · omega
theorem cut_c (w : World) (s : Sl) (bs : List Br) (nets : Int) (h : Rd w br 3 s bs) (hv : VB bs nets) :
    callC Tryz.prog 15 #[s.v, .int .i64 nets] (fun (r : Sl × Sl × Int) => .tuple #[r.1.v, r.2.1.v, .int .i64 r.2.2]) w fun r w' => ((r.2.2 = 19 ∧ ∃ k b, bs[k]? = some b ∧ b.own = false ∧ Rch bs (forg bs k) b.dst b.src) ∨
      (r.2.2 = 0 ∧ (∀ k b, bs[k]? = some b → b.own = false → ¬ Rch bs (forg bs k) b.dst b.src) ∧ ∃ F, OwnF w' F 3 1 r.1 ((casts (ownb bs (forg bs bs.length) bs.length).2).flatMap ci) ∧ Fresh w w' F)) ∧ Quiet w w' := by
  have hv' := hv
  obtain ⟨⟨n1, n2⟩, hbl, hbr⟩ := hv
  have hsl := h.len
  refine D15 _ _ w _ ?_
  unfold F15
  refine (bvalid_c w s bs nets h hv').use ?_
  rintro r w1 ⟨rfl, q1⟩
  refine ⟨fun e => (by cases e), fun _ => ?_⟩
  have hfl : ∀ n, ∀ i ∈ forg bs n, i < bs.length := fun n i hi => by
    obtain ⟨_, b, hb, _⟩ := forg_mem.1 hi
    exact (List.getElem?_eq_some_iff.1 hb).1
  refine ⟨fun c w' => 0 ≤ c.2 ∧ c.2 ≤ bs.length ∧ (∀ k b, k < c.2.toNat → bs[k]? = some b → b.own = false → ¬ Rch bs (forg bs k) b.dst b.src) ∧ ∃ F, OwnF w' F 3 1 c.1 ((casts (forg bs c.2.toNat)).flatMap ci) ∧ Fresh w w' F, fun c _ => ((bs.length : Int) - c.2).toNat,
    ⟨Int.le_refl _, by (try dsimp only); omega, fun k b hk => (by simp at hk), _, OwnF.nil _ (fun _ => False) _ _, ⟨q1, fun _ e => e.elim⟩⟩, ?_⟩
  rintro ⟨op, i⟩ w2 ⟨i0, i1, hno, F, o2, f2⟩
  dsimp only at i0 i1 hno o2 ⊢
  have hlen2 := (o2.rd ci1 (by decide)).len
  rw [casts_len] at hlen2
  have hfo := forg_len (bs := bs) i.toNat
  refine ⟨fun hi => ?_, fun hi => ?_⟩
  · have hlt : i < bs.length := by have := of_decide_eq_true hi; omega
    obtain ⟨b, hb⟩ := getq i0 hlt
    have hbv := hbr b (List.mem_of_getElem? hb)
    have hforg : forg bs (i.toNat + 1) = if b.own then forg bs i.toNat else forg bs i.toNat ++ [i.toNat] := by simp only [forg, hb]
    have hno' : ¬ (b.own = false ∧ Rch bs (forg bs i.toNat) b.dst b.src) → ∀ k b, k < i.toNat + 1 → bs[k]? = some b → b.own = false → ¬ Rch bs (forg bs k) b.dst b.src := fun hn k b' hk hb' ho' hr' => by
      by_cases e : k = i.toNat
      · subst e
        rw [hb] at hb'
        injection hb' with hb'
        subst hb'
        exact hn ⟨ho', hr'⟩
      · exact hno k b' (by omega) hb' ho' hr'
    refine jn.mk (fun r w' => (∀ k b, k < i.toNat + 1 → bs[k]? = some b → b.own = false → ¬ Rch bs (forg bs k) b.dst b.src) ∧ ∃ F, OwnF w' F 3 1 r ((casts (forg bs (i.toNat + 1))).flatMap ci) ∧ Fresh w w' F) ?_ ?_
    · refine (h.keepQ f2.q).ixx i0 hb fun p hat _ => br_ld hat (br_box (x := b) fun bb w5 hbb q5 _ _ => hbb.at.ld (j := 2) rfl ⟨fun g => ?_, fun g => ?_⟩)
      · have g : b.own = true := g
        rw [hforg, if_pos g]
        exact ⟨hno' fun e => (by rw [g] at e; cases e.1), F, o2.keepQ q5, f2.keep q5⟩
      · have g : b.own = false := g
        rw [hforg, if_neg (by rw [g]; decide)]
        refine hbb.at.ld (j := 1) rfl (hbb.at.ld (j := 0) rfl ((path_c w5 s op bs (forg bs i.toNat) nets b.dst b.src (h.keepQ (f2.q.tr q5)) ((o2.keepQ q5).rd ci1 (by decide)) hv' (hfl _) (by omega) hbv.2).use ?_))
        rintro ⟨r25, ok⟩ w6 ⟨hok, G, xs, o6, hxs, f6⟩
        dsimp only at hok ⊢
        have q26 := q5.tr f6.q
        refine ⟨fun g2 => ?_, fun g2 => ?_⟩
        · have hl6 : r25.len = xs.length := (o6.rd ci1 (by decide)).len
          refine OwnF.push (news := ci i) apI o6 rfl rfl (by unfold maxLen; omega) (by omega) fun r w8 F' o8 _ st8 => ⟨.inl ⟨rfl, _, b, hb, g, hok.1 g2⟩, (f2.q.tr q5).tr (f6.stp st8).q⟩
        · have hnr : ¬ Rch bs (forg bs i.toNat) b.dst b.src := fun e => by
            rw [hok.2 e] at g2
            cases g2
          refine OwnF.push (news := ci i) apI (o2.keepQ q26) rfl rfl (by unfold maxLen; omega) (by omega) fun r w8 F' o8 _ st8 => ⟨hno' fun e => hnr e.2, F', ?_, (f2.keep q26).stp st8⟩
          rw [casts_add, show ((i.toNat : Nat) : Int) = i by omega]
          exact o8
    rintro r w3 ⟨hn3, F3, o3, f3⟩
    rw [w64 (by omega) (by omega)]
    refine ⟨⟨by (try dsimp only); omega, by (try dsimp only); omega, ?_, F3, ?_, f3⟩, by (try dsimp only); omega⟩
    · (try dsimp only)
      rw [toNat_succ i0]
      exact hn3
    · (try dsimp only)
      rw [toNat_succ i0]
      exact o3
  have hib : i.toNat = bs.length := by have := of_decide_eq_false hi; omega
  rw [hib] at hno o2
  rw [hib] at hlen2 hfo
  have hno : ∀ k b, bs[k]? = some b → b.own = false → ¬ Rch bs (forg bs k) b.dst b.src := fun k b hb => hno k b (List.getElem?_eq_some_iff.1 hb).1 hb
  have hol := fun n => ownb_lt (hfl bs.length) n
  refine ⟨fun c w' => 0 ≤ c.2.2 ∧ c.2.2 ≤ bs.length ∧ ∃ F G, OwnF w' F 3 1 c.1 ((casts (ownb bs (forg bs bs.length) c.2.2.toNat).1).flatMap ci) ∧ OwnF w' G 3 1 c.2.1 ((casts (ownb bs (forg bs bs.length) c.2.2.toNat).2).flatMap ci) ∧ Objs w w' (two F G), fun c _ => ((bs.length : Int) - c.2.2).toNat,
    ⟨Int.le_refl _, by (try dsimp only); omega, F, fun _ => False, o2, OwnF.nil _ _ _ _, (Objs.start w).none2.n0 f2⟩, ?_⟩
  rintro ⟨op2, ct, j⟩ w11 ⟨j0, j1, F1, G1, oF, oG, O⟩
  dsimp only at j0 j1 oF oG ⊢
  obtain ⟨hol1, hol2, hol3⟩ := hol j.toNat
  have q11 : Quiet w w11 := Quiet.ofBelow O.bl
  have hlF := (oF.rd ci1 (by decide)).len
  have hlG := (oG.rd ci1 (by decide)).len
  rw [casts_len] at hlF hlG
  refine ⟨fun hj => ?_, fun hj => ?_⟩
  · have hlt : j < bs.length := by have := of_decide_eq_true hj; omega
    obtain ⟨b, hb⟩ := getq j0 hlt
    have hbv := hbr b (List.mem_of_getElem? hb)
    refine jn.mk (fun r w' => ∃ F G, OwnF w' F 3 1 r.1 ((casts (ownb bs (forg bs bs.length) (j.toNat + 1)).1).flatMap ci) ∧ OwnF w' G 3 1 r.2 ((casts (ownb bs (forg bs bs.length) (j.toNat + 1)).2).flatMap ci) ∧ Objs w w' (two F G)) ?_ ?_
    · refine (h.keepQ q11).ixx j0 hb fun p hat _ => br_ld hat (br_box (x := b) fun bb w14 hbb q14 _ _ => hbb.at.ld (j := 2) rfl ⟨fun g => ?_, fun g => ?_⟩)
      · have g : b.own = false := by simpa using g
        have e : ownb bs (forg bs bs.length) (j.toNat + 1) = ownb bs (forg bs bs.length) j.toNat := by
          rw [ownb]
          simp [hb, g]
        rw [e]
        exact ⟨F1, G1, oF.keepQ q14, oG.keepQ q14, O.quiet q14⟩
      · have g : b.own = true := by simpa using g
        refine hbb.at.ld (j := 1) rfl (hbb.at.ld (j := 0) rfl ((path_c w14 s op2 bs _ nets b.dst b.src (h.keepQ (q11.tr q14)) ((oF.keepQ q14).rd ci1 (by decide)) hv' hol1 (by omega) hbv.2).use ?_))
        rintro ⟨r45, ok⟩ w15 ⟨hok, H, xs, o15, hxs, f15⟩
        dsimp only at hok ⊢
        have q15 := q14.tr f15.q
        have O15 := O.quiet q15
        refine ⟨fun g2 => ?_, fun g2 => ?_⟩
        · have e : ownb bs (forg bs bs.length) (j.toNat + 1) = ((ownb bs (forg bs bs.length) j.toNat).1, (ownb bs (forg bs bs.length) j.toNat).2 ++ [j.toNat]) := by
            rw [ownb]
            simp [hb, g, hok.1 g2]
          rw [e]
          refine OwnF.push (news := ci j) apI (oG.keepQ q15) rfl rfl (by unfold maxLen; omega) (by omega) fun r w17 F' o17 _ st17 => ⟨F1, F', (oF.keepQ q15).keep st17.only O15.d01, ?_, O15.s1 st17⟩
          rw [casts_add, show ((j.toNat : Nat) : Int) = j by omega]
          exact o17
        · have hnr : ¬ Rch bs (ownb bs (forg bs bs.length) j.toNat).1 b.dst b.src := fun e => by
            rw [hok.2 e] at g2
            cases g2
          have e : ownb bs (forg bs bs.length) (j.toNat + 1) = ((ownb bs (forg bs bs.length) j.toNat).1 ++ [j.toNat], (ownb bs (forg bs bs.length) j.toNat).2) := by
            rw [ownb]
            simp [hb, g, hnr]
          rw [e]
          refine OwnF.push (news := ci j) apI (oF.keepQ q15) rfl rfl (by unfold maxLen; omega) (by omega) fun r w17 F' o17 _ st17 => ⟨F', G1, ?_, (oG.keepQ q15).keep st17.only O15.d10, O15.s0 st17⟩
          rw [casts_add, show ((j.toNat : Nat) : Int) = j by omega]
          exact o17
    rintro r w12 ⟨F2, G2, oF2, oG2, O2⟩
    rw [w64 (by omega) (by omega)]
    refine ⟨⟨by (try dsimp only); omega, by (try dsimp only); omega, F2, G2, ?_, ?_, O2⟩, by (try dsimp only); omega⟩
    · (try dsimp only)
      rw [toNat_succ j0]
      exact oF2
    · (try dsimp only)
      rw [toNat_succ j0]
      exact oG2
  have hjb : j.toNat = bs.length := by have := of_decide_eq_false hj; omega
  refine (ranks_c w11 s op2 bs _ nets (h.keepQ q11) (oF.rd ci1 (by decide)) hv' hol1 (by omega)).use ?_
  rintro r51 w20 ⟨H, ys, o20, f20⟩
  rw [hjb] at oG
  have O20 := O.quiet f20.q
  refine ⟨.inr ⟨rfl, hno, G1, oG.keepQ f20.q, q11.tr f20.q, fun b hb => ⟨?_, ?_⟩⟩, q11.tr f20.q⟩
  · exact O20.sep.ge 1 b (by unfold two; simpa using hb)
  · exact O20.sep.lt 1 b (by unfold two; simpa using hb)
end Go.Proofs.YtgbhghoppjfofaaGreat
