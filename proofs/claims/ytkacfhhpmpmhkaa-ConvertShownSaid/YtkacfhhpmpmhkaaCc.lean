import Derived.Test.YtkacfhhpmpmhkaaCb
namespace Go.Proofs.Ytkacfhhpmpmhkaa
open Go.Dec Go.RowKit
set_option maxHeartbeats 800000
set_option maxRecDepth 10000

/-- the ways that the map holds -/
structure Vals (w : World) (G : Nat → Prop) (M : ByteArray → Option Sl) (m : Mw) : Prop where
  none_ : ∀ t, M t = none → m t = none
  some_ : ∀ t s, M t = some s → ∃ p, m t = some p ∧ Rd w ci 1 s (nz p) ∧ s.len ≤ s.cap ∧ ∀ ad, s.a = some ad → 0 < p.length → G ad.block
theorem Vals.keep {w w' : World} {F G : Nat → Prop} {M : ByteArray → Option Sl} {m : Mw} (h : Vals w G M m) (ho : Only F w w') (hd : ∀ b, G b → ¬ F b) : Vals w' G M m :=
  ⟨h.none_, fun t s e => by
    obtain ⟨p, h1, h2, h3, h4⟩ := h.some_ t s e
    exact ⟨p, h1, h2.keep ho fun ad ha hp => hd _ (h4 ad ha (by rwa [nz_len] at hp)), h3, h4⟩⟩
theorem Vals.at_ {w : World} {G : Nat → Prop} {M : ByteArray → Option Sl} {m : Mw} (h : Vals w G M m) {t : ByteArray} {p : List Nat} (e : m t = some p) : ∃ s, M t = some s ∧ Rd w ci 1 s (nz p) ∧ s.len ≤ s.cap := by
  cases hM : M t with
  | none => rw [h.none_ t hM] at e; cases e
  | some s =>
    obtain ⟨p', h1, h2, h3, _⟩ := h.some_ t s hM
    rw [h1] at e
    injection e with e
    subst e
    exact ⟨s, rfl, h2, h3⟩
structure PSt (W w : World) (mb : Nat) (Fq G : Nat → Prop) (q : Sl) (M : ByteArray → Option Sl) (m : Mw) (Q : List ByteArray) : Prop where
  O : Objs W w (four (fun b => b = mb) Fq G fun _ => False)
  map : Mp Value.string Sl.v w mb M
  que : Que w Fq 9 1 q (Q.flatMap cb)
  vals : Vals w G M m
section
variable {W w w' : World} {mb : Nat} {Fq G : Nat → Prop} {qs : Sl} {M : ByteArray → Option Sl} {m : Mw} {Q : List ByteArray}
theorem PSt.keepQ (S : PSt W w mb Fq G qs M m Q) (h : Quiet w w') : PSt W w' mb Fq G qs M m Q := ⟨S.O.quiet h, S.map.keepQ h, S.que.keepQ h, S.vals.keep h fun _ _ => id⟩
theorem PSt.qq (S : PSt W w mb Fq G qs M m Q) : Quiet W w := Quiet.ofBelow S.O.bl
/-- a way of one more type -/
theorem PSt.add {v : World} {H : Nat → Prop} {r : Sl} {x : ByteArray} {p : List Nat} {K : World → Prop} (S : PSt W v mb Fq G qs M m Q) (ho : OwnF w H 3 1 r ((nz p).flatMap ci)) (f : Fresh v w H)
    (k : ∀ w' G', PSt W w' mb Fq G' qs (mset M x r) (mset m x p) Q → Only (fun b => b = mb) w w' → K w') : rn0 Try.prog (Instr.mapUpdate 48 (Value.map (some mb)) (Value.string x) (Sl.v r)) w K := by
  have O2 := S.O.t2 f.grow
  have dj := O2.dj4
  refine rn_mset x r (S.map.keepQ f.q) u48 k9 fun w' m' on s' => k w' _ ⟨O2.t0 ⟨on, fun b e => .inl e⟩, m', (S.que.keepQ f.q).keep on fun b hb e => dj.2.2.2.1 b hb e, ?_⟩ on
  have hv := (S.vals.keep f.q fun _ _ => id).keep on fun b hb e => dj.2.2.2.2.1 b (.inl hb) e
  have hr := (ho.keep on fun b hb e => dj.2.2.2.2.1 b (.inr hb) e)
  refine ⟨fun t e => ?_, fun t s e => ?_⟩
  · by_cases ht : t = x
    · subst ht
      simp [mset] at e
    · rw [mset_ne _ _ ht] at e ⊢
      exact hv.none_ t e
  · by_cases ht : t = x
    · subst ht
      simp only [mset, if_true, Option.some.injEq] at e ⊢
      subst e
      exact ⟨p, rfl, hr.rd ci1 (by decide), hr.cap, fun ad ha _ => .inr (hr.blk _ (by simp [Sl.blk, ha]))⟩
    · rw [mset_ne _ _ ht] at e ⊢
      obtain ⟨p', h1, h2, h3, h4⟩ := hv.some_ t s e
      exact ⟨p', h1, h2, h3, fun ad ha hp => .inl (h4 ad ha hp)⟩
end
theorem path_c (w : World) (s t : Sl) (L : List Ch) (u : ByteArray) (T : List ByteArray) (n : Int) (h : Rd w ch 3 s L) (h' : Rd w cb 1 t T) (hT : T.length ≤ 1000000) :
    callC Try.prog 10 #[s.v, .string u, t.v, .int .i64 n] (fun (r : Sl × Bool) => .tuple #[Sl.v r.1, .bool r.2]) w fun r w' => ∃ a, Rd w' ci 1 r.1 (nz a) ∧ r.1.len ≤ r.1.cap ∧ PathR L u T n a r.2 ∧ Quiet w w' := by
  have hsl := h.len
  have htl := h'.len
  refine D10 _ _ _ _ w _ ?_
  unfold F10
  refine ⟨fun g => ⟨[], Rd.nil _ _ _, Nat.le_refl _, .inl ⟨?_, rfl, rfl⟩, Only.refl _ _⟩, fun g => ?_⟩
  · rw [Bool.or_eq_true, decide_eq_true_eq, decide_eq_true_eq] at g
    omega
  have hg : ¬ (200 < L.length ∨ n < 0) := by
    rw [Bool.or_eq_false_iff, decide_eq_false_iff_not, decide_eq_false_iff_not] at g
    omega
  refine rn_makeMap (α := ByteArray) (β := Sl) (ek := Value.string) (ev := Sl.v) (fun _ => rfl) fun mb w1 hm q1 g1 l1 _ => nwL fun b5 w2 hb5 q2 g2 _ l2 => ?_
  refine rn_mset u (⟨some ⟨b5, 0, none⟩, 0, 0⟩ : Sl) (hm.keepQ q2) u48 k9 fun w3 m3 on3 s3 => nwL fun b7 w4 hb7 q4 g4 _ l4 => ?_
  have z1 := q1.size
  have z2 := q2.size
  have z3 := on3.size
  have O4 : Objs w w4 (four (fun b => b = mb) (fun b => b = b7) (fun _ => False) fun _ => False) :=
    ((((((Objs.start w).none4.t0 (F' := fun b => b = mb) ⟨q1.mono fun _ _ e => e.elim, fun b e => .inr (by omega)⟩).quiet q2).t0 ⟨on3, fun b e => .inl e⟩).t1 (F' := fun b => b = b7) ⟨q4.mono fun _ _ e => e.elim, fun b e => .inr (by omega)⟩))
  have S4 : PSt w w4 mb (fun b => b = b7) (fun _ => False) (⟨some ⟨b7, 0, none⟩, 1, 1⟩ : Sl) (mset mnone u (⟨some ⟨b5, 0, none⟩, 0, 0⟩ : Sl)) (mset mnone u []) [u] := by
    refine ⟨O4, m3.keepQ q4, Que.start (n := 1) hb7 rfl (by decide), fun t e => ?_, fun t s e => ?_⟩
    · unfold mset mnone at *
      split at e
      · cases e
      · rename_i ht
        rw [if_neg ht]
    · unfold mset mnone at *
      split at e
      · rename_i ht
        rw [if_pos ht]
        injection e with e
        subst e
        exact ⟨[], rfl, ⟨rfl, fun i x hx => by simp [nz] at hx⟩, Nat.le_refl _, fun ad _ hp => by simp at hp⟩
      · cases e
  clear O4 hm hb5 hb7 m3
  refine lp_ghost (fun (D : List ByteArray) l w' => ∃ Q M m Fq G, Srch L u T n m D Q ∧ PSt w w' mb Fq G l M m Q) (fun D => L.length + 1 - D.length) [] ⟨_, _, _, _, _, Srch.begin L u T n, S4⟩ ?_
  rintro N D l8 w5 ⟨Q, M, m, Fq, G, hS, S⟩ hN
  have hqr := S.que.rd cb1 (by decide)
  have hql := hqr.len
  refine ⟨fun hc => ?_, fun hc => ?_⟩
  rotate_left
  · have hc : ¬ 0 < (l8.len : Int) := of_decide_eq_false hc
    have : Q = [] := List.length_eq_zero_iff.1 (by omega)
    subst this
    exact ⟨[], Rd.nil _ _ _, Nat.le_refl _, .inr ⟨hg, .inr ⟨rfl, rfl, hS.nothing⟩⟩, S.qq⟩
  have hc : 0 < (l8.len : Int) := of_decide_eq_true hc
  cases Q with
  | nil => simp at hql; omega
  | cons at_ Q =>
    have hsm := hS.small
    simp only [List.length_cons] at hsm
    refine hqr.ixx (i := 0) (by omega) rfl fun p hat _ => hat.ld0 rfl ?_
    obtain ⟨pa, hpa⟩ := (hS.dom at_).2 (by simp)
    refine S.que.next (news := cb at_) (xs := Q.flatMap cb) ap23 rfl fun r12 hq12 _ => use_same (contains_c w5 t T at_ (h'.keepQ S.qq) hT) ⟨fun gT => ?_, fun gT => ?_⟩
    · have gT : at_ ∈ T := of_decide_eq_true gT
      obtain ⟨sa, hM, hsr, hsc⟩ := S.vals.at_ hpa
      refine rn_look1 (z := Sl.nil) at_ S.map u48 k9 zv24 sa (by rw [hM]; rfl) ?_
      exact ⟨pa, hsr, hsc, .inr ⟨hg, .inl ⟨rfl, hS.found gT hpa⟩⟩, S.qq⟩
    have gT : at_ ∉ T := of_decide_eq_false gT
    have hX := hS.open_ gT
    have S : PSt w w5 mb Fq G r12 M m Q := ⟨S.O, S.map, hq12, S.vals⟩
    refine ⟨fun (l : Sl × Int) w' => 0 ≤ l.2 ∧ l.2 ≤ L.length ∧ ∃ Q M m Fq G, Scan L u T n m D at_ Q l.2.toNat ∧ PSt w w' mb Fq G l.1 M m Q, fun l _ => (L.length - l.2).toNat, ⟨by simp, by simp, _, _, _, _, _, hX, S⟩, ?_⟩
    clear S hX hS hpa pa hqr hql hq12 S4
    rintro ⟨l16, i⟩ w9 ⟨i0, i1, Q, M, m, Fq, G, hX, S⟩
    dsimp only at i0 i1 hX S ⊢
    have hXs := hX.small
    refine ⟨fun hi => ?_, fun hi => ?_⟩
    rotate_left
    · have hi : ¬ i < (s.len : Int) := of_decide_eq_false hi
      refine hN (D ++ [at_]) l16 w9 ⟨Q, M, m, Fq, G, hX.close (by omega), S⟩ ?_
      rw [List.length_append]
      simp only [List.length_cons, List.length_nil]
      omega
    have hi : i < (s.len : Int) := of_decide_eq_true hi
    obtain ⟨c, hc⟩ := getq (l := L) i0 (by omega)
    have hi1 : (i + 1).toNat = i.toNat + 1 := toNat_succ i0
    -- what the step leaves
    refine jn.mk (fun r w' => ∃ Q M m Fq G, Scan L u T n m D at_ Q (i.toNat + 1) ∧ PSt w w' mb Fq G r M m Q) ?_ ?_
    rotate_left
    · rintro r w' ⟨Q', M', m', Fq', G', hX', S'⟩
      rw [w64 (by omega) (by omega)]
      refine ⟨⟨by (try dsimp only); omega, by (try dsimp only); omega, Q', M', m', Fq', G', ?_, S'⟩, by (try dsimp only); omega⟩
      rw [hi1]
      exact hX'
    refine (h.keepQ S.qq).ixx i0 hc fun p hat _ => ch_ld hat (ch_box fun b24 w12 hb24 q24 _ _ => ?_)
    have S := S.keepQ q24
    have A24 := hb24.at
    refine A24.ld (j := 0) rfl (jp_or (v := decide (c.most < n)) (fun _ J hJ => A24.ld (j := 2) rfl hJ) ⟨fun g => ?_, fun g => ?_⟩)
    · rw [Bool.or_eq_true, decide_eq_true_eq, beqS_eq, Bool.not_eq_true', decide_eq_false_iff_not] at g
      exact ⟨Q, M, m, Fq, G, hX.skip hc (g.imp id .inl), S⟩
    rw [Bool.or_eq_false_iff, decide_eq_false_iff_not, beqS_eq, Bool.not_eq_false', decide_eq_true_eq] at g
    refine A24.ld (j := 1) rfl (rn_look (z := Sl.nil) c.dst S.map u48 k9 zv24 (((M c.dst).getD Sl.nil), (M c.dst).isSome) rfl ⟨fun gM => ?_, fun gM => ?_⟩)
    rotate_left
    · have gM : (M c.dst).isSome = true := by simpa using gM
      obtain ⟨s', hs'⟩ := Option.isSome_iff_exists.1 gM
      obtain ⟨p', hp', _⟩ := S.vals.some_ _ _ hs'
      exact ⟨Q, M, m, Fq, G, hX.skip hc (.inr (.inr ⟨p', hp'⟩)), S⟩
    have gM : M c.dst = none := by simpa using gM
    have hm := S.vals.none_ _ gM
    obtain ⟨pa, hpa⟩ := (hX.dom at_).2 (by simp)
    obtain ⟨sa, hMa, hsr, hsc⟩ := S.vals.at_ hpa
    have hwt : wt m at_ = pa := wt_eq hpa
    have hplen := hX.lenA
    rw [hwt] at hplen
    refine jn.mk (fun _ w' => ∃ M' G', PSt w w' mb Fq G' l16 M' (mset m c.dst (pa ++ [i.toNat])) Q ∧ IsCh w' b24 c) ?_ ?_
    · show tk _ _
      unfold tk
      have qd : Quiet w12 w12.drew := Only.drew _ _
      generalize w12.drew = w14 at *
      have S := S.keepQ qd
      have B := hb24.keepQ qd
      have hsr := hsr.keepQ qd
      have cl : ∀ w', Quiet w14 w' → w'.cell? ((Addr.mk b24 0 none).add 1) = some (Value.string c.dst) := fun w' q => (B.keepQ q).at.cj (j := 1) rfl
      refine B.at.ld (j := 1) rfl ?_
      have tail : ∀ (w17 : World) (r39 : Sl) (F39 : Nat → Prop) (b40 : Nat), OwnF w17 F39 3 1 r39 ((nz pa).flatMap ci) → Fresh w14 w17 F39 → Blk w17 b40 3 #[Value.int .i64 i] →
          rn Try.prog (Builtin.append_ #[24, 24] 24 #[Sl.v r39, Sl.v (⟨some ⟨b40, 0, none⟩, 1, 1⟩ : Sl)]) Sl.v w17 fun r41 w18 => (w18.cell? ((Addr.mk b24 0 none).add 1) = some (Value.string c.dst)) ∧
            rn0 Try.prog (Instr.mapUpdate 48 (Value.map (some mb)) (Value.string c.dst) (Sl.v r41)) w18 fun w19 => ∃ M' G', PSt w w19 mb Fq G' l16 M' (mset m c.dst (pa ++ [i.toNat])) Q ∧ IsCh w19 b24 c := by
        intro w17 r39 F39 b40 ho f hb40
        have hrl := (ho.rd ci1 (by decide)).len
        rw [nz_len] at hrl
        have hu : Rd w17 ci 1 (⟨some ⟨b40, 0, none⟩, 1, 1⟩ : Sl) [i] := ints_row hb40 rfl rfl
        refine ho.app ap24 hu ci1 (by decide) cione (by unfold maxLen; simp; omega) (by simp; omega) fun r41 w18 F41 o41 _ st41 => ?_
        have f41 := f.stp st41
        refine ⟨cl _ f41.q, ?_⟩
        have hx : (nz pa).flatMap ci ++ [i].flatMap ci = (nz (pa ++ [i.toNat])).flatMap ci := by
          rw [nz_app, List.flatMap_append]
          simp [nz, Int.toNat_of_nonneg i0]
        rw [hx] at o41
        refine S.add o41 f41 fun w19 G' S' on => ⟨_, _, S', ?_⟩
        exact (B.keepQ f41.q).keep on fun e => (S.map.keepQ f41.q).ne_blk (B.keepQ f41.q) e
      have look : ∀ (w' : World) (K : Sl → World → Prop), Quiet w14 w' → K sa w' → rn Try.prog (Instr.lookup 48 (Value.map (some mb)) (Value.string at_) false) (fun (r : Sl) => (Sl.v r)) w' K := fun w' K q k =>
        rn_look1 (z := Sl.nil) at_ (S.map.keepQ q) u48 k9 zv24 sa (by rw [hMa]; rfl) k
      refine ⟨look w14 _ (Only.refl _ _) ⟨cl _ (Only.refl _ _), ⟨?_, ?_⟩⟩, ?_⟩
      · refine (iclone_c w14 sa (nz pa) hsr (by rw [nz_len]; omega)).use ?_
        rintro r39 w16 ⟨F39, o39, f39⟩
        refine ⟨cl _ f39.q, nwL fun b40 w17 hb40 q40 _ _ _ => ⟨cl _ (f39.q.tr q40), ?_⟩⟩
        exact tail w17 r39 F39 b40 (o39.keepQ q40) (f39.keep q40) hb40
      · refine nwL fun b43 w20 hb43 q43 _ _ _ => ⟨cl _ q43, ?_⟩
        refine (iclone_c w20 sa (nz pa) (hsr.keepQ q43) (by rw [nz_len]; omega)).use ?_
        rintro r39 w16 ⟨F39, o39, f39⟩
        exact ⟨cl _ (q43.tr f39.q), tail w16 r39 F39 b43 o39 (f39.after q43) (hb43.keepQ f39.q)⟩
      · refine nwL fun b43 w20 hb43 q43 _ _ _ => ⟨cl _ q43, look w20 _ q43 ⟨cl _ q43, ?_⟩⟩
        refine (iclone_c w20 sa (nz pa) (hsr.keepQ q43) (by rw [nz_len]; omega)).use ?_
        rintro r39 w16 ⟨F39, o39, f39⟩
        exact ⟨cl _ (q43.tr f39.q), tail w16 r39 F39 b43 o39 (f39.after q43) (hb43.keepQ f39.q)⟩
    rintro _ w29 ⟨M', G', S29, B29⟩
    refine B29.at.ld (j := 1) rfl ?_
    have hq29 := (S29.que.rd cb1 (by decide)).len
    refine S29.que.push (news := cb c.dst) ap23 (fun b hb => S29.O.sep.lt 1 b hb) rfl rfl (by unfold maxLen; omega) (by omega) fun r55 w31 F' hq31 _ st31 _ => ?_
    have dj := S29.O.dj4
    have hadd := hX.add hc g.1 (by omega) hm
    rw [hwt] at hadd
    refine ⟨Q ++ [c.dst], M', _, F', G', hadd, S29.O.t1 st31, S29.map.keep st31.only fun e => dj.1 _ rfl e, ?_, S29.vals.keep st31.only fun b hb e => dj.2.2.2.2.2 b hb e⟩
    rw [List.flatMap_append]
    simpa [cb] using hq31
end Go.Proofs.Ytkacfhhpmpmhkaa
