import Derived.Test.YtjmjackeeiglmaaPj
namespace Go.Proofs.Ytjmjackeeiglmaa
open Go.Dec Go.RowKit
set_option maxHeartbeats 400000

theorem ap22 : appOK Try.prog 22 32 3 40 = true := by kernel_rfl
def cpl (x : Pl × Sl) : List Value := [.int .i64 x.1.kind, .int .i64 x.1.id, x.2.v]
theorem cpl3 (x : Pl × Sl) : (cpl x).length = 3 := rfl
theorem RdP.list {w : World} {s : Sl} {l : List Pl} (h : RdP w s l) : ∃ L : List (Pl × Sl), L.map Prod.fst = l ∧ Rd w cpl 3 s L ∧ ∀ x ∈ L, Rd w ci 1 x.2 x.1.frm := by
  have aux : ∀ k, k ≤ l.length → ∃ L : List (Pl × Sl), L.map Prod.fst = l.take k ∧ (∀ i x, L[i]? = some x → ∃ ad, s.a = some ad ∧ AtC w (ad.add (i * 3)) (cpl x)) ∧ ∀ x ∈ L, Rd w ci 1 x.2 x.1.frm := by
    intro k
    induction k with
    | zero => exact fun _ => ⟨[], by simp, by simp, by simp⟩
    | succ k ih =>
      intro hk
      obtain ⟨L, h1, h2, h3⟩ := ih (by omega)
      have hp : l[k]? = some l[k] := List.getElem?_eq_getElem (by omega)
      obtain ⟨ad, fs, g1, g2, g3⟩ := h.2 k _ hp
      have hL : L.length = k := by
        have := congrArg List.length h1
        rw [List.length_map, List.length_take] at this
        omega
      refine ⟨L ++ [(l[k], fs)], by rw [take_next hp, List.map_append, h1]; rfl, fun i x hx => ?_, fun x hx => ?_⟩
      · rcases Nat.lt_trichotomy i k with e | e | e
        · rw [List.getElem?_append_left (by omega)] at hx
          exact h2 i x hx
        · subst e
          rw [List.getElem?_append_right (by omega), hL] at hx
          simp at hx
          subst hx
          exact ⟨ad, g1, g2⟩
        · rw [List.getElem?_eq_none (by simp; omega)] at hx
          cases hx
      · rcases List.mem_append.1 hx with e | e
        · exact h3 x e
        · simp at e
          subst e
          exact g3
  obtain ⟨L, h1, h2, h3⟩ := aux l.length (Nat.le_refl _)
  rw [List.take_length] at h1
  refine ⟨L, h1, ⟨?_, h2⟩, h3⟩
  rw [h.1, ← h1, List.length_map]
theorem Rd.places {w : World} {s : Sl} {L : List (Pl × Sl)} (h : Rd w cpl 3 s L) (hf : ∀ x ∈ L, Rd w ci 1 x.2 x.1.frm) : RdP w s (L.map Prod.fst) := by
  refine ⟨by rw [h.1, List.length_map], fun i p hp => ?_⟩
  rw [List.getElem?_map] at hp
  obtain ⟨x, hx, rfl⟩ := Option.map_eq_some_iff.1 hp
  obtain ⟨ad, e, hat⟩ := h.2 i x hx
  exact ⟨ad, x.2, e, hat, hf x (List.mem_of_getElem? hx)⟩
theorem one_place {w : World} {b : Nat} {p : Pl} {fs : Sl} (h : Blk w b 32 #[.int .i64 p.kind, .int .i64 p.id, fs.v]) : Rd w cpl 3 (⟨some ⟨b, 0, none⟩, 1, 1⟩ : Sl) [(p, fs)] := by
  refine ⟨rfl, fun i x hx => ?_⟩
  match i, hx with
  | 0, hx =>
    cases hx
    exact ⟨_, rfl, blk3 h rfl rfl rfl⟩
  | i + 1, hx => simp at hx
theorem empty_own {w : World} {b e sz : Nat} (h : Blk w b e #[]) : OwnF w (fun x => x = b) e sz (⟨some ⟨b, 0, none⟩, 0, 0⟩ : Sl) [] :=
  ⟨Own.mk' rfl h (Nat.le_refl _) (Nat.zero_le _) (by simp) (by simp), fun x hx => by simpa [Sl.blk] using hx.symm⟩

theorem RtP.snoc {l : List Pl} {p : Pl} (h : RtP l) (hl : l.length + 1 ≤ 100000) : RtP (l ++ [p]) ↔ OkP l.length p := by
  constructor
  · intro e
    exact e.ok l.length p (by simp)
  · intro e
    refine ⟨fun i q hq => ?_, by simpa using hl⟩
    rcases Nat.lt_trichotomy i l.length with e1 | e1 | e1
    · rw [List.getElem?_append_left e1] at hq
      exact h.ok i q hq
    · subst e1
      rw [List.getElem?_append_right (Nat.le_refl _), Nat.sub_self] at hq
      simp at hq
      subst hq
      exact e
    · rw [List.getElem?_eq_none (by simp; omega)] at hq
      cases hq

/-- what the law reckons of the further place, up to the k-th source -/
def vUp (n : Nat) (p : Pl) (k : Nat) : Prop := (0 ≤ p.kind ∧ p.kind < 8 ∧ 0 ≤ p.id ∧ p.id ≤ 1099511627776) ∧ ∀ (i : Nat) f, i < k → p.frm[i]? = some f → 0 ≤ f ∧ f < n ∧ (i = 0 ∨ p.frm.getD (i - 1) 0 < f)
theorem vUp_ok {n : Nat} {p : Pl} : vUp n p p.frm.length ↔ OkP n p := by
  constructor
  · rintro ⟨⟨h0, h1, h2, h3⟩, h4⟩
    refine ⟨h0, h1, h2, h3, fun k f hf => ?_⟩
    obtain ⟨g0, g1, g2⟩ := h4 k f (List.getElem?_eq_some_iff.1 hf).1 hf
    unfold lastOf
    refine ⟨?_, g1⟩
    split
    · omega
    · rcases g2 with e | e
      · contradiction
      · exact e
  · intro h
    refine ⟨⟨h.k0, h.k1, h.d0, h.d1⟩, fun i f _ hf => ?_⟩
    have h1 := h.f i f hf
    have h2 := h.mem (List.mem_of_getElem? hf)
    refine ⟨h2.1, h1.2, ?_⟩
    unfold lastOf at h1
    by_cases e : i = 0
    · exact .inl e
    · rw [if_neg e] at h1
      exact .inr h1.1

theorem adds (W : World) (s : Sl) (l : List Pl) (h : RdP W s l) (hl : l.length ≤ maxLen) (hfr : ∀ p ∈ l, p.frm.length ≤ maxLen) (hz : s.len * 40 ≤ 140737488351232)
    (p : Pl) (fs : Sl) (hfs : Rd W ci 1 fs p.frm) (hpl : p.frm.length ≤ maxLen)
    (t : Sl) (m : List Int) (hm : Rd W ci 1 t m) (_ : ∀ ad, t.a = some ad → 0 < m.length → ad.block < W.heap.size) (_ : m.length ≤ maxLen) :
    callC Try.prog 7 #[s.v, .agg #[.int .i64 p.kind, .int .i64 p.id, fs.v], t.v] (fun (r : Bool) => .bool r) W fun r w' => r = true ∧ Below W.heap.size W w' := by
  have hsl := h.len
  have htl := hm.len
  have hl' : l.length ≤ 9223372036854775807 := by unfold maxLen at hl; omega
  have hfr' : ∀ p ∈ l, p.frm.length ≤ 9223372036854775807 := fun p hp => by have := hfr p hp; unfold maxLen at this; omega
  refine D7 _ _ _ _ _ W _ ?_
  unfold F7
  refine nwL fun b1 w1 hb q1 _ _ _ => ?_
  refine (small_c w1).use ?_
  rintro r w2 ⟨rfl, q2⟩
  have q12 := q1.tr q2
  replace hb := hb.keepQ q2
  obtain ⟨L, rfl, hL, hLf⟩ := (h.keepQ q12).list
  have hLl : L.length = (L.map Prod.fst).length := by rw [List.length_map]
  have ld0 : ∀ {w' : World} {K : Int → Prop}, Quiet w2 w' → K p.kind → ld (Value.int .i64) ((Addr.mk b1 0 none).add 0) w' K := fun q hk => (hb.keepQ q).ld rfl hk
  have ld1 : ∀ {w' : World} {K : Int → Prop}, Quiet w2 w' → K p.id → ld (Value.int .i64) ((Addr.mk b1 0 none).add 1) w' K := fun q hk => (hb.keepQ q).ld rfl hk
  have ld2 : ∀ {w' : World} {K : Sl → Prop}, Quiet w2 w' → K fs → ld Sl.v ((Addr.mk b1 0 none).add 2) w' K := fun q hk => (hb.keepQ q).ld rfl hk
  have cells : ∀ {w' : World}, Quiet w2 w' → (w'.cell? ((Addr.mk b1 0 none).add 0) = some (Value.int .i64 p.kind) ∧ w'.cell? ((Addr.mk b1 0 none).add 1) = some (Value.int .i64 p.id) ∧ w'.cell? ((Addr.mk b1 0 none).add 2) = some (Sl.v fs)) := fun q => ⟨(hb.keepQ q).ld0' rfl, (hb.keepQ q).ld0' rfl, (hb.keepQ q).ld0' rfl⟩
  have one : ∀ x, (cpl x).all Value.oneCell' = true := fun _ => rfl
  have z1 : L.length ≤ maxLen := by rw [hLl]; exact hl
  have z2 : L.length * 40 ≤ 140737488355328 := by rw [hLl, ← hsl]; omega
  have z3 : L.length + 1 ≤ maxLen := by rw [hsl, ← hLl] at hz; unfold maxLen; omega
  have z4 : (L.length + 1) * 40 ≤ 140737488355328 := by rw [hsl, ← hLl] at hz; omega
  refine jn.mk (fun (r : Sl) w' => ∃ F, OwnF w' F 32 3 r ((L ++ [(p, fs)]).flatMap cpl) ∧ Fresh w2 w' F) ?_ ?_
  · show tk w2 _
    unfold tk
    have qd : Quiet w2 w2.drew := Only.drew _ _
    refine ld0 qd (ld1 qd (ld2 qd ⟨?_, ?_⟩))
    · refine nwL fun b8 w4 hb8 q4 ge8 hs8 lt8 => ⟨cells (qd.tr q4), ?_, ?_⟩
      · refine (empty_own hb8).app ap22 ((hL.keepQ qd).keepQ q4) cpl3 (by decide) one (by simpa using z1) (by simpa using z2) fun r9 w5 F5 o5 l5 s5 => ?_
        have f5 : Fresh w2 w5 F5 := (Fresh.stp ⟨qd.tr q4, fun x hx => by subst hx; exact ⟨Nat.le_trans qd.size ge8, lt8⟩⟩ s5)
        refine ⟨cells f5.q, ?_⟩
        refine OwnF.push ap22 o5 rfl rfl (by rw [l5]; simpa using z3) (by rw [l5]; simpa using z4) fun r w6 F6 o6 _ s6 => ⟨F6, ?_, f5.stp s6⟩
        simpa [cpl] using o6
      · refine nwL fun b12 w8 hb12 q8 ge12 hs12 lt12 => ?_
        have q48 := (qd.tr q4).tr q8
        refine ((empty_own hb8).keepQ q8).app ap22 (hL.keepQ q48) cpl3 (by decide) one (by simpa using z1) (by simpa using z2) fun r9 w5 F5 o5 l5 s5 => ?_
        have f5 : Fresh w2 w5 F5 := (Fresh.stp ⟨q48, fun x hx => by subst hx; exact ⟨Nat.le_trans qd.size ge8, Nat.lt_of_lt_of_le lt8 q8.size⟩⟩ s5)
        have hb12' : Blk w5 b12 32 #[.int .i64 p.kind, .int .i64 p.id, fs.v] := hb12.keep s5.only (by intro e; omega)
        refine o5.app ap22 (one_place hb12') cpl3 (by decide) one (by rw [l5]; simpa using z3) (by rw [l5]; simpa using z4) fun r w6 F6 o6 _ s6 => ⟨F6, ?_, f5.stp s6⟩
        simpa using o6
    · refine nwL fun b15 w11 hb15 q11 ge15 hs15 lt15 => nwL fun b16 w12 hb16 q12 ge16 hs16 lt16 => ?_
      have q48 := (qd.tr q11).tr q12
      refine (empty_own hb16).app ap22 (hL.keepQ q48) cpl3 (by decide) one (by simpa using z1) (by simpa using z2) fun r9 w5 F5 o5 l5 s5 => ?_
      have f5 : Fresh w2 w5 F5 := (Fresh.stp ⟨q48, fun x hx => by subst hx; exact ⟨Nat.le_trans (qd.tr q11).size ge16, lt16⟩⟩ s5)
      have hb15' : Blk w5 b15 32 #[.int .i64 p.kind, .int .i64 p.id, fs.v] := (hb15.keepQ q12).keep s5.only (by intro e; omega)
      refine o5.app ap22 (one_place hb15') cpl3 (by decide) one (by rw [l5]; simpa using z3) (by rw [l5]; simpa using z4) fun r w6 F6 o6 _ s6 => ⟨F6, ?_, f5.stp s6⟩
      simpa using o6
  rintro all w15 ⟨FA, oA, fA⟩
  have q15 := fA.q
  have qW15 := q12.tr q15
  have hA : RdP w15 all (L.map Prod.fst ++ [p]) := by
    have := Rd.places (oA.rd cpl3 (by decide)) fun x hx => by
      rcases List.mem_append.1 hx with e | e
      · exact (hLf x e).keepQ q15
      · simp at e
        subst e
        exact hfs.keepQ qW15
    rwa [List.map_append] at this
  have hAfr : ∀ x ∈ L.map Prod.fst ++ [p], x.frm.length ≤ maxLen := fun x hx => by
    rcases List.mem_append.1 hx with e | e
    · exact hfr x e
    · simp at e
      subst e
      exact hpl
  generalize hll : L.map Prod.fst = l at *
  have hAl : (l ++ [p]).length = l.length + 1 := by simp
  have hl2 : (l ++ [p]).length ≤ 9223372036854775807 := by rw [hAl, ← hLl]; unfold maxLen at z3; omega
  refine (few_c w15 all _ 30 hA (by decide) (by decide) hl2).use ?_
  rintro r w16 ⟨hfew, rfl⟩
  refine jn.mk (fun c w' => (c = false → ((((l ++ [p]).length : Nat) : Int) ≤ 30 ∧ ∀ x ∈ l ++ [p], x.frm.length ≤ 40) ∧ m.length ≤ 40 ∧ RtP l) ∧ Quiet w15 w') ⟨fun _ => ⟨fun e => (by cases e), Only.refl _ _⟩, fun hc => (right_c w15 s l (h.keepQ qW15) hl' hfr').use ?_⟩ ?_
  · rintro a w3 ⟨ha, q3⟩
    rw [htl] at hc
    simp at hc
    exact ⟨fun e => ⟨hfew hc.1, by omega, ha.1 (by simpa using e)⟩, q3⟩
  rintro c w18 ⟨hc4, q18⟩
  have qa := qW15.tr q18
  have qb : Quiet w2 w18 := q15.tr q18
  refine ⟨fun _ => ⟨rfl, bq qa⟩, fun hc => ?_⟩
  obtain ⟨⟨h30, h40⟩, hm40, hR⟩ := hc4 hc
  rw [hAl] at h30
  have hp40 := h40 p (by simp)
  have h40l : ∀ x ∈ l, x.frm.length ≤ 40 := fun x hx => h40 x (List.mem_append.2 (.inl hx))
  have argsL : ∀ {w' : World} {t' : Sl} {m' : List Int}, Quiet W w' → Rd w' ci 1 t' m' → m'.length ≤ 1000000 → Args w' s l t' m' := fun q hr hk => ⟨h.keepQ q, hr, hl', fun p hp => by have := h40l p hp; omega, hk⟩
  have argsA : ∀ {w' : World} {t' : Sl} {m' : List Int}, Quiet w15 w' → Rd w' ci 1 t' m' → m'.length ≤ 1000000 → Args w' all (l ++ [p]) t' m' := fun q hr hk => ⟨hA.keepQ q, hr, hl2, fun p hp => by have := h40 p hp; omega, hk⟩
  have hsn := RtP.snoc (p := p) hR (by omega)
  refine ld0 qb ?_
  refine jp.val (decide (0 ≤ p.kind) && decide (p.kind < 8)) ⟨fun hc => ld0 qb (by simp [hc]), fun hc => by simp [hc]⟩ ?_
  refine jp.val ((decide (0 ≤ p.kind) && decide (p.kind < 8)) && decide (0 ≤ p.id)) ⟨fun hc => ld1 qb (by simp [hc]), fun hc => by simp [hc]⟩ ?_
  refine jp.val (((decide (0 ≤ p.kind) && decide (p.kind < 8)) && decide (0 ≤ p.id)) && decide (p.id ≤ 1099511627776)) ⟨fun hc => ld1 qb (by simp [hc]), fun hc => by simp [hc]⟩ ?_
  have hfsl := hfs.len
  refine ⟨fun (c : Bool × Int) w' => 0 ≤ c.2 ∧ c.2 ≤ p.frm.length ∧ (c.1 = true ↔ vUp l.length p c.2.toNat) ∧ Quiet w18 w', fun c _ => (p.frm.length - c.2).toNat, ⟨by simp, by simp, ?_, Only.refl _ _⟩, ?_⟩
  · unfold vUp
    simp [and_assoc]
  rintro ⟨v, k⟩ w19 ⟨k0, k1, hv, q19⟩
  dsimp only at k0 k1 hv ⊢
  have qb19 := qb.tr q19
  have qW19 := qa.tr q19
  refine ld2 qb19 ⟨fun hk => ?_, fun hk => ?_⟩
  · have hlt : k < p.frm.length := by simpa [hfsl] using hk
    obtain ⟨f, hf⟩ := getq k0 hlt
    refine jn.mk (fun c w' => c = (v && decide (0 ≤ f ∧ f < l.length ∧ (k.toNat = 0 ∨ p.frm.getD (k.toNat - 1) 0 < f))) ∧ Quiet w18 w') ?_ ?_
    · show tk w19 _
      unfold tk
      have qd : Quiet w19 w19.drew := Only.drew _ _
      have qb20 := qb19.tr qd
      have rdf : ∀ {K : Addr → Prop}, (∀ q, AtC w19.drew q (ci f) → K q) → ix fs k 1 K := fun kk => (hfs.keepQ (qW19.tr qd)).ix k0 hlt fun q y hy hat _ => by
        rw [hf] at hy
        injection hy with hy
        subst hy
        exact kk q hat
      refine ⟨fun hc => ?_, fun hc => ⟨fun hc => (by cases hc), fun _ => ⟨fun hc => (by cases hc), fun _ => ⟨by rw [hc]; rfl, q19.tr qd⟩⟩⟩⟩
      refine ld2 qb20 (rdf fun q hat => hat.ld0 rfl ⟨fun hc1 => ld2 qb20 (rdf fun q hat => hat.ld0 rfl ⟨fun hc2 => ⟨fun hc3 => ⟨?_, q19.tr qd⟩, fun hc3 => ?_⟩, fun hc2 => ⟨?_, q19.tr qd⟩⟩), fun hc1 => ⟨fun hc => (by cases hc), fun _ => ⟨?_, q19.tr qd⟩⟩⟩)
      · rw [hsl] at hc2
        have : k = 0 := by simpa using hc3
        subst this
        simp at hc1 hc2
        simp [hc, hc1, hc2]
      · rw [hsl] at hc2
        have hk0 : k ≠ 0 := by simpa using hc3
        rw [w64 (x := k - 1) (by omega) (by omega), show max (k - 1) 0 = k - 1 by omega]
        refine ld2 qb20 ((hfs.keepQ (qW19.tr qd)).ix (by omega) (by omega) fun q y hy hat _ => hat.ld0 rfl (ld2 qb20 (rdf fun q hat => hat.ld0 rfl ⟨?_, q19.tr qd⟩)))
        have e1 : p.frm.getD (k.toNat - 1) 0 = y := by
          rw [show k.toNat - 1 = (k - 1).toNat by omega, List.getD_eq_getElem?_getD, hy]
          rfl
        simp at hc1 hc2
        have : ¬ k.toNat = 0 := by omega
        rw [e1]
        simp [hc, hc1, hc2, this]
      · rw [hsl] at hc2
        simp at hc2
        have : ¬ f < l.length := by omega
        simp [hc, this]
      · simp at hc1
        have : ¬ 0 ≤ f := by omega
        simp [hc, this]
    · rintro c w21 ⟨rfl, q21⟩
      rw [w64 (by omega) (by omega)]
      refine ⟨⟨by (try dsimp only); omega, by (try dsimp only); omega, ?_, q21⟩, by (try dsimp only); omega⟩
      try dsimp only
      rw [show (k + 1).toNat = k.toNat + 1 by omega, Bool.and_eq_true, hv, decide_eq_true_eq]
      unfold vUp
      constructor
      · rintro ⟨⟨g1, g2⟩, g3⟩
        refine ⟨g1, fun i g hi hg => ?_⟩
        by_cases e : i = k.toNat
        · subst e
          rw [hf] at hg
          injection hg with hg
          subst hg
          exact g3
        · exact g2 i g (by omega) hg
      · rintro ⟨g1, g2⟩
        exact ⟨⟨g1, fun i g hi hg => g2 i g (by omega) hg⟩, g2 k.toNat f (by omega) hf⟩
  have hk' : k.toNat = p.frm.length := by simp [hfsl] at hk; omega
  rw [hk', vUp_ok] at hv
  have qA19 : Quiet w15 w19 := q18.tr q19
  refine (right_c w19 all _ (hA.keepQ qA19) hl2 fun x hx => by have := h40 x hx; omega).use ?_
  rintro r w22 ⟨hr, q22⟩
  have hrv : r = v := by
    have : (r = true ↔ v = true) := by rw [hr, hv, hsn]
    cases r <;> cases v <;> simp_all
  subst hrv
  refine ⟨fun hc => absurd hc (by simp), fun _ => ?_⟩
  have qA22 := qA19.tr q22
  have qW22 := qW19.tr q22
  have qb22 := qb19.tr q22
  refine (reach_c w22 s t l m (argsL qW22 (hm.keepQ qW22) (by omega))).use ?_
  rintro r93 w23 ⟨F93, o93, f93⟩
  have qW23 := qW22.tr f93.q
  have qA23 := qA22.tr f93.q
  refine (reach_c w23 all t _ m (argsA qA23 (hm.keepQ qW23) (by omega))).use ?_
  rintro r94 w24 ⟨F94, o94, f94⟩
  have qW24 := qW23.tr f94.q
  have qA24 := qA23.tr f94.q
  have qb24 := (qb22.tr f93.q).tr f94.q
  have h93 := (o93.rd ci1 (by decide)).keepQ f94.q
  have h94 := o94.rd ci1 (by decide)
  have l93 := h93.len
  have l94 := h94.len
  refine ⟨fun hc => ?_, fun hc => ?_⟩
  · have hnv : ¬ RtP (l ++ [p]) := fun e => by rw [hr.2 e] at hc; cases hc
    have e1 : reachP m (l ++ [p]) = [] := by unfold reachP; rw [if_neg hnv]
    have e2 : orderP m (l ++ [p]) = [] := by unfold orderP; rw [if_neg hnv]
    have e3 : kindsP m (l ++ [p]) = [] := by unfold kindsP; rw [if_neg hnv]
    rw [e1] at l94
    refine jn.mk (fun c w' => c = true ∧ Quiet w24 w') ⟨fun _ => (order_c w24 all t _ m (argsA qA24 (hm.keepQ qW24) (by omega))).use ?_, fun hc => absurd hc (by rw [l94]; decide)⟩ ?_
    · rintro r w25 ⟨F, o, f⟩
      have := (o.rd ci1 (by decide)).len
      rw [e2] at this
      exact ⟨by rw [this]; decide, f.q⟩
    rintro c w26 ⟨rfl, q26⟩
    refine jn.mk (fun c w' => c = true ∧ Quiet w24 w') ⟨fun _ => (kinds_c w26 all t _ m (argsA (qA24.tr q26) (hm.keepQ (qW24.tr q26)) (by omega))).use ?_, fun hc => by cases hc⟩ ?_
    · rintro r w25 ⟨F, o, f⟩
      have := (o.rd ci1 (by decide)).len
      rw [e3] at this
      exact ⟨by rw [this]; decide, q26.tr f.q⟩
    rintro c w28 ⟨rfl, q28⟩
    exact ⟨rfl, bq (qW24.tr q28)⟩
  have hRA : RtP (l ++ [p]) := hr.1 (by simpa using hc)
  have hO : OkP l.length p := hsn.1 hRA
  have e1 : reachP m (l ++ [p]) = idx 0 (fl m (l ++ [p])) := by unfold reachP; rw [if_pos hRA]
  have e2 : reachP m l = idx 0 (fl m l) := by unfold reachP; rw [if_pos hR]
  have e3 : ∀ x, kindsP x (l ++ [p]) = cnt (l ++ [p]) (idx 0 (marks x (l ++ [p]).length)) := fun x => by unfold kindsP; rw [if_pos hRA]
  rw [fl_snoc, idx_snoc, fl_len, ← e2] at e1
  rw [e1] at h94
  have hrule : rule m (fl m l) p = (decide ((l.length : Int) ∈ m) || p.frm.any fun f => decide (f ∈ reachP m l)) := by
    unfold rule
    rw [fl_len, e2]
    congr 1
    have : ∀ f ∈ p.frm, (fl m l).getD f.toNat false = decide (f ∈ idx 0 (fl m l)) := fun f hf => (mem_idx0 (hO.mem hf).1).symm
    rw [Bool.eq_iff_iff, List.any_eq_true, List.any_eq_true]
    exact ⟨fun ⟨f, hf, hg⟩ => ⟨f, hf, by rw [← this f hf]; exact hg⟩, fun ⟨f, hf, hg⟩ => ⟨f, hf, by rw [this f hf]; exact hg⟩⟩
  have lR : (reachP m l).length ≤ 30 := by
    have := idx_len 0 (fl m l)
    rw [fl_len] at this
    rw [e2]
    omega
  rw [hrule] at h94
  generalize reachP m l = X at *
  have hm24 := hm.keepQ qW24
  rw [hsl]
  refine (has_c w24 t m l.length hm24 (by omega)).use ?_
  rintro r106 w29 ⟨rfl, rfl⟩
  refine ⟨fun (c : Bool × Int) w' => 0 ≤ c.2 ∧ c.2 ≤ p.frm.length ∧ c.1 = (decide ((l.length : Int) ∈ m) || (p.frm.take c.2.toNat).any fun f => decide (f ∈ X)) ∧ w24 = w', fun c _ => (p.frm.length - c.2).toNat, ⟨by simp, by simp, by simp, rfl⟩, ?_⟩
  rintro ⟨v, k⟩ w30 ⟨k0, k1, hv', rfl⟩
  dsimp only at k0 k1 hv' ⊢
  refine ld2 qb24 ⟨fun hk => ?_, fun hk => ?_⟩
  · have hlt : k < p.frm.length := by simpa [hfsl] using hk
    obtain ⟨f, hf⟩ := getq k0 hlt
    refine jn.mk (fun c w' => c = (v || decide (f ∈ X)) ∧ w24 = w') ⟨fun hc => ⟨by rw [hc]; rfl, rfl⟩, fun hc => ld2 qb24 ((hfs.keepQ qW24).ix k0 hlt fun q y hy hat _ => hat.ld0 rfl ((has_c w24 r93 X y h93 (by omega)).use ?_))⟩ ?_
    · rintro r w31 ⟨rfl, rfl⟩
      rw [hf] at hy
      injection hy with hy
      subst hy
      exact ⟨by rw [hc]; rfl, rfl⟩
    · rintro c w32 ⟨rfl, rfl⟩
      rw [w64 (by omega) (by omega)]
      refine ⟨⟨by (try dsimp only); omega, by (try dsimp only); omega, ?_, rfl⟩, by (try dsimp only); omega⟩
      rw [show (v || decide (f ∈ X), k + 1).2.toNat = k.toNat + 1 by (try dsimp only); omega, take_next hf, List.any_append, hv']
      simp [Bool.or_assoc]
  have hk' : p.frm.length ≤ k.toNat := by simp [hfsl] at hk; omega
  rw [List.take_of_length_le hk'] at hv'
  rw [← hv'] at h94
  refine rn_copy ap23 h93 ci1 (by decide) (fun _ => rfl) (by unfold maxLen; omega) (by omega) fun r118 w34 F118 o118 l118 f118 => ?_
  refine jn.mk (fun (c : Sl) w' => ∃ F, OwnF w' F 3 1 c ((X ++ (if v = true then [(0 : Int) + (l.length : Nat)] else [])).flatMap ci) ∧ Fresh w24 w' F) ⟨fun hc => ?_, fun hc => ?_⟩ ?_
  · refine OwnF.push ap23 o118 rfl rfl (by unfold maxLen; omega) (by omega) fun r w4 F' ho' _ st' => ⟨F', ?_, f118.stp st'⟩
    rw [if_pos hc]
    simpa [ci] using ho'
  · rw [if_neg (by rw [hc]; decide)]
    exact ⟨F118, by simpa using o118, f118⟩
  rintro want w35 ⟨FW, oW, fW⟩
  refine nwL fun b124 w38 hb124 q38 _ _ _ => ?_
  have qW38 := (qW24.tr fW.q).tr q38
  have qA38 := (qA24.tr fW.q).tr q38
  have r3 : Rd w38 ci 1 (⟨some ⟨b124, 0, none⟩, 3, 3⟩ : Sl) [(l.length : Int), (l.length : Int), -1] := rdI hb124 rfl rfl
  refine (kinds_c w38 all _ _ _ (argsA qA38 r3 (by simp))).use ?_
  rintro r125 w39 ⟨F125, o125, f125⟩
  have hC := o125.rd ci1 (by decide)
  rw [e3] at hC
  have hidx : idx 0 (marks [(l.length : Int), (l.length : Int), -1] (l ++ [p]).length) = [(l.length : Int)] := by
    have e5 : marks [(l.length : Int), (l.length : Int), -1] (l ++ [p]).length = List.replicate l.length false ++ [true] := by
      apply List.ext_getElem
      · simp [marks]
      · intro j h1 h2
        simp only [marks, List.getElem_map, List.getElem_range, List.getElem_append, List.length_replicate, List.getElem_replicate, List.mem_cons, List.not_mem_nil, or_false]
        split
        · rename_i hj
          have : ¬ ((j : Int) = l.length) := by omega
          have : ¬ ((j : Int) = -1) := by omega
          simp [*]
        · rename_i hj
          simp at h2
          have : (j : Int) = l.length := by omega
          simp [this]
    have e6 : ∀ (n : Nat) (k : Int), idx k (List.replicate n false) = [] := by
      intro n
      induction n with
      | zero => intro k; rfl
      | succ n ih => intro k; simpa [List.replicate_succ, idx] using ih (k + 1)
    rw [e5, idx_snoc, e6]
    simp
  rw [hidx] at hC
  have hkind : kindOf (l ++ [p]) (l.length : Int) = p.kind := by simp [kindOf]
  have hget : ∀ c : Nat, c < 8 → (cnt (l ++ [p]) [(l.length : Int)])[c]? = some (if p.kind = (c : Int) then 1 else 0) := fun c hc => by
    rw [cnt_get hc]
    simp only [List.filter_cons, hkind, List.filter_nil]
    by_cases e : p.kind = (c : Int) <;> simp [e]
  have hClen := hC.len
  rw [cnt_len] at hClen
  have hC8 : (cnt (l ++ [p]) [(l.length : Int)]).length = 8 := cnt_len _ _
  generalize cnt (l ++ [p]) [(l.length : Int)] = C at *
  refine ⟨fun hc => absurd hc (by rw [hClen]; decide), fun _ => ?_⟩
  have qb39 : Quiet w2 w39 := ((qb24.tr fW.q).tr q38).tr f125.q
  refine ⟨fun j w' => 0 ≤ j ∧ j ≤ 8 ∧ w39 = w', fun j _ => (8 - j).toNat, ⟨by omega, by omega, rfl⟩, ?_⟩
  rintro j w40 ⟨j0, j1, rfl⟩
  refine ⟨fun hj => ?_, fun hj => ?_⟩
  · have hlt : j < 8 := by rw [hClen] at hj; simpa using hj
    have hg := hget j.toNat (by omega)
    rw [show ((j.toNat : Nat) : Int) = j by omega] at hg
    have rdj : ∀ {K : Addr → Prop}, (∀ q, AtC w39 q (ci (if p.kind = j then 1 else 0)) → K q) → ix r125 j 1 K := fun kk => hC.ix j0 (by omega) fun q y hy hat _ => by
      rw [hg] at hy
      injection hy with hy
      subst hy
      exact kk q hat
    refine rdj fun q hat => hat.ld0 rfl ?_
    refine jp.val false ⟨fun hc => ld0 qb39 ?_, fun hc => rfl⟩ ?_
    · by_cases e : p.kind = j
      · simp [e]
      · rw [if_neg e] at hc
        simp at hc
    refine jp.val false ⟨fun hc => (by cases hc), fun _ => ld0 qb39 ?_⟩ ?_
    · refine jp.val false ⟨fun hc => rdj fun q hat => hat.ld0 rfl ?_, fun hc => rfl⟩ rfl
      have : p.kind = j := by
        have : j = p.kind := by simpa using hc
        omega
      rw [if_pos this]
      decide
    refine ⟨fun hc => (by cases hc), fun _ => ?_⟩
    rw [w64 (by omega) (by omega)]
    exact ⟨⟨by omega, by omega, rfl⟩, by (try dsimp only); omega⟩
  · have h94' := ((h94.keepQ fW.q).keepQ q38).keepQ f125.q
    have hW' := ((oW.rd ci1 (by decide)).keepQ q38).keepQ f125.q
    refine jn.mk (fun c w' => c = true ∧ Quiet w39 w') ⟨fun _ => (same_c w39 r94 want _ _ h94' hW' ?_).use ?_, fun hc => by cases hc⟩ ?_
    · rw [List.length_append]
      split <;> simp <;> omega
    · rintro r w41 ⟨rfl, q⟩
      exact ⟨by simp, q⟩
    · rintro c w42 ⟨rfl, q42⟩
      exact ⟨rfl, bq ((((qW24.tr fW.q).tr q38).tr f125.q).tr q42)⟩
end Go.Proofs.Ytjmjackeeiglmaa
