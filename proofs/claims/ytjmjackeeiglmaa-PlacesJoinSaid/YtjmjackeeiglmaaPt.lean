import Derived.Test.YtjmjackeeiglmaaPq
namespace Go.Proofs.Ytjmjackeeiglmaa
open Go.Dec Go.RowKit
set_option maxHeartbeats 400000

theorem few_c (w : World) (s : Sl) (l : List Pl) (n : Int) (h : RdP w s l) (hn : 0 ≤ n) (hm : n ≤ 1000) (hl : l.length ≤ 9223372036854775807) :
    callC Try.prog 9 #[s.v, .int .i64 n] (fun (r : Bool) => .bool r) w fun r w' => (r = true → (l.length : Int) ≤ n ∧ ∀ p ∈ l, p.frm.length ≤ 40) ∧ w = w' := by
  have hsl := h.len
  refine D9 _ _ w _ ?_
  unfold F9
  refine ⟨fun i w' => 0 ≤ i ∧ i ≤ l.length ∧ (∀ (j : Nat) p, (j : Int) < i → l[j]? = some p → p.frm.length ≤ 40) ∧ w = w', fun i _ => (l.length - i).toNat, ⟨by omega, by omega, fun j p hj => by omega, rfl⟩, ?_⟩
  rintro i w' ⟨i0, i1, hs, rfl⟩
  refine ⟨fun hc => ?_, fun hc => ?_⟩
  · have hc' : i < l.length ∧ i ≤ n := by simpa [hsl] using hc
    refine h.ix i0 hc'.1 fun p x fs hx hat hfs => hat.ld (j := 2) (x := fs) rfl ⟨fun hb => ⟨by simp, rfl⟩, fun hb => ?_⟩
    have hb' : x.frm.length ≤ 40 := by rw [hfs.len] at hb; simp at hb; omega
    rw [w64 (by omega) (by omega)]
    refine ⟨⟨by omega, by omega, fun j p hj hp => ?_, rfl⟩, by (try dsimp only); omega⟩
    by_cases e : (j : Int) < i
    · exact hs j p e hp
    · have : j = i.toNat := by omega
      subst this
      rw [hx] at hp
      injection hp with hp
      subst hp
      exact hb'
  · have hc' : ¬ (i < l.length ∧ i ≤ n) := by simpa [hsl] using hc
    refine ⟨fun hr => ?_, rfl⟩
    have hr' : (l.length : Int) ≤ n := by simpa [hsl] using hr
    refine ⟨hr', fun p hp => ?_⟩
    obtain ⟨j, hj, rfl⟩ := List.getElem_of_mem hp
    exact hs j _ (by omega) (List.getElem?_eq_getElem hj)

theorem rdI {w : World} {b n : Nat} {l : List Int} {cs : Array Value} (h : Blk w b 3 cs) (hn : n = l.length) (hc : cs = (l.map (Value.int .i64)).toArray) : Rd w ci 1 (⟨some ⟨b, 0, none⟩, n, n⟩ : Sl) l := by
  subst hc
  refine ⟨hn, fun i x hx => ⟨_, rfl, fun j u hu => ?_⟩⟩
  match j, hu with
  | 0, hu =>
    simp [ci] at hu
    subst hu
    rw [mk_add, mk_add, h.cell]
    simp [hx]
  | j + 1, hu => simp [ci] at hu
theorem blk3 {w : World} {b o : Nat} {t : TypeId} {cs : Array Value} {x y z : Value} (h : Blk w b t cs) (e0 : cs[o]? = some x) (e1 : cs[o + 1]? = some y) (e2 : cs[o + 2]? = some z) : AtC w ((Addr.mk b 0 none).add o) [x, y, z] := by
  intro j u hu
  rw [mk_add, mk_add, h.cell, Nat.zero_add]
  match j, hu with
  | 0, hu => rw [← hu]; exact e0
  | 1, hu => rw [← hu]; exact e1
  | 2, hu => rw [← hu]; exact e2
  | j + 3, hu => simp at hu

def fivel : List Pl := [⟨0, 0, []⟩, ⟨1, 0, [0]⟩, ⟨0, 2, []⟩, ⟨3, 0, [0, 2]⟩, ⟨6, 0, [1]⟩]
theorem five_rt : RtP fivel := by
  have f0 : ∀ (i : Nat) (k : Nat) (f : Int), ([] : List Int)[k]? = some f → lastOf [] k < f ∧ f < i := fun i k f h => by simp at h
  refine ⟨fun i p hp => ?_, by decide⟩
  match i, hp with
  | 0, hp => cases hp; exact ⟨by decide, by decide, by decide, by decide, f0 _⟩
  | 1, hp =>
    cases hp
    refine ⟨by decide, by decide, by decide, by decide, fun k f h => ?_⟩
    match k, h with
    | 0, h => cases h; decide
    | k + 1, h => simp at h
  | 2, hp => cases hp; exact ⟨by decide, by decide, by decide, by decide, f0 _⟩
  | 3, hp =>
    cases hp
    refine ⟨by decide, by decide, by decide, by decide, fun k f h => ?_⟩
    match k, h with
    | 0, h => cases h; decide
    | 1, h => cases h; decide
    | k + 2, h => simp at h
  | 4, hp =>
    cases hp
    refine ⟨by decide, by decide, by decide, by decide, fun k f h => ?_⟩
    match k, h with
    | 0, h => cases h; decide
    | k + 1, h => simp at h
  | i + 5, hp => simp [fivel] at hp

theorem five_c (w : World) : callC Try.prog 21 #[] Sl.v w fun r w' => RdP w' r fivel ∧ Quiet w w' := by
  refine D21 w _ ?_
  unfold F21
  refine nwL fun b1 w1 hb1 q1 _ _ _ => nwL fun b2 w2 hb2 q2 _ _ _ => nwL fun b3 w3 hb3 q3 _ _ _ => nwL fun b4 w4 hb4 q4 _ _ _ => ?_
  have r1 : Rd w4 ci 1 (⟨some ⟨b1, 0, none⟩, 1, 1⟩ : Sl) [0] := rdI (((hb1.keepQ q2).keepQ q3).keepQ q4) rfl rfl
  have r2 : Rd w4 ci 1 (⟨some ⟨b2, 0, none⟩, 2, 2⟩ : Sl) [0, 2] := rdI ((hb2.keepQ q3).keepQ q4) rfl rfl
  have r3 : Rd w4 ci 1 (⟨some ⟨b3, 0, none⟩, 1, 1⟩ : Sl) [1] := rdI (hb3.keepQ q4) rfl rfl
  refine ⟨⟨rfl, fun i p hp => ?_⟩, ((q1.tr q2).tr q3).tr q4⟩
  match i, hp with
  | 0, hp => cases hp; exact ⟨_, Sl.nil, rfl, blk3 hb4 rfl rfl rfl, Rd.nil _ _ _⟩
  | 1, hp => cases hp; exact ⟨_, _, rfl, blk3 hb4 rfl rfl rfl, r1⟩
  | 2, hp => cases hp; exact ⟨_, Sl.nil, rfl, blk3 hb4 rfl rfl rfl, Rd.nil _ _ _⟩
  | 3, hp => cases hp; exact ⟨_, _, rfl, blk3 hb4 rfl rfl rfl, r2⟩
  | 4, hp => cases hp; exact ⟨_, _, rfl, blk3 hb4 rfl rfl rfl, r3⟩
  | i + 5, hp => simp [fivel] at hp

theorem small_c (w : World) : callC Try.prog 8 #[] (fun (r : Bool) => .bool r) w fun r w' => r = true ∧ Quiet w w' := by
  refine D8 w _ ?_
  unfold F8
  refine (five_c w).use ?_
  rintro r1 w1 ⟨h5, q1⟩
  have args : ∀ {w' : World} {t : Sl} {some_ : List Int}, Quiet w1 w' → Rd w' ci 1 t some_ → some_.length ≤ 1000000 → Args w' r1 fivel t some_ := fun q h hl => ⟨h5.keepQ q, h, by decide, by decide, hl⟩
  refine nwL fun b2 w2 hb2 q2 _ _ _ => ?_
  refine (reach_c w2 r1 _ fivel [0] (args q2 (rdI hb2 rfl rfl) (by decide))).use ?_
  rintro r3 w3 ⟨F3, o3, f3⟩
  refine nwL fun b4 w4 hb4 q4 _ _ _ => ?_
  refine (same_c w4 r3 _ _ [0, 1, 3, 4] ((o3.keepQ q4).rd ci1 (by decide)) (rdI hb4 rfl rfl) (by unfold reachP; rw [if_pos five_rt]; decide)).use ?_
  rintro r5 w5 ⟨rfl, q5⟩
  have qa : Quiet w1 w5 := ((q2.tr f3.q).tr q4).tr q5
  refine jn.mk (fun c w' => c = true ∧ Quiet w1 w') ⟨fun _ => ?_, fun hc => absurd hc (by unfold reachP; rw [if_pos five_rt]; decide)⟩ ?_
  · refine nwL fun b8 w6 hb8 q6 _ _ _ => ?_
    refine (reach_c w6 r1 _ fivel [2] (args (qa.tr q6) (rdI hb8 rfl rfl) (by decide))).use ?_
    rintro r9 w7 ⟨F9, o9, f9⟩
    refine nwL fun b10 w8 hb10 q8 _ _ _ => ?_
    refine (same_c w8 r9 _ _ [2, 3] ((o9.keepQ q8).rd ci1 (by decide)) (rdI hb10 rfl rfl) (by unfold reachP; rw [if_pos five_rt]; decide)).use ?_
    rintro r11 w9 ⟨rfl, q9⟩
    exact ⟨by unfold reachP; rw [if_pos five_rt]; decide, (((qa.tr q6).tr f9.q).tr q8).tr q9⟩
  rintro c w10 ⟨rfl, q10⟩
  refine jn.mk (fun c w' => c = true ∧ Quiet w1 w') ⟨fun _ => ?_, fun hc => by cases hc⟩ ?_
  · refine nwL fun b8 w6 hb8 q6 _ _ _ => ?_
    refine (order_c w6 r1 _ fivel [0, 1, 3, 4] (args (q10.tr q6) (rdI hb8 rfl rfl) (by decide))).use ?_
    rintro r9 w7 ⟨F9, o9, f9⟩
    refine nwL fun b10 w8 hb10 q8 _ _ _ => ?_
    refine (same_c w8 r9 _ _ [4, 3, 1, 0] ((o9.keepQ q8).rd ci1 (by decide)) (rdI hb10 rfl rfl) (by unfold orderP; rw [if_pos five_rt]; decide)).use ?_
    rintro r11 w9 ⟨rfl, q9⟩
    exact ⟨by unfold orderP; rw [if_pos five_rt]; decide, (((q10.tr q6).tr f9.q).tr q8).tr q9⟩
  rintro c w15 ⟨rfl, q15⟩
  refine jn.mk (fun c w' => c = true ∧ Quiet w1 w') ⟨fun _ => ?_, fun hc => by cases hc⟩ ?_
  · refine nwL fun b8 w6 hb8 q6 _ _ _ => ?_
    refine (kinds_c w6 r1 _ fivel [0, 1, 3, 4] (args (q15.tr q6) (rdI hb8 rfl rfl) (by decide))).use ?_
    rintro r9 w7 ⟨F9, o9, f9⟩
    refine nwL fun b10 w8 hb10 q8 _ _ _ => ?_
    refine (same_c w8 r9 _ _ [1, 1, 0, 1, 0, 0, 1, 0] ((o9.keepQ q8).rd ci1 (by decide)) (rdI hb10 rfl rfl) (by unfold kindsP; rw [if_pos five_rt]; decide)).use ?_
    rintro r11 w9 ⟨rfl, q9⟩
    exact ⟨by unfold kindsP; rw [if_pos five_rt]; decide, (((q15.tr q6).tr f9.q).tr q8).tr q9⟩
  rintro c w20 ⟨rfl, q20⟩
  refine jn.mk (fun c w' => c = true ∧ Quiet w1 w') ⟨fun _ => ?_, fun hc => by cases hc⟩ ?_
  · refine (right_c w20 r1 fivel (h5.keepQ q20) (by decide) (by decide)).use ?_
    rintro r w21 ⟨hr, q21⟩
    exact ⟨hr.2 five_rt, q20.tr q21⟩
  rintro c w22 ⟨rfl, q22⟩
  exact ⟨rfl, q1.tr q22⟩

theorem tells (W : World) (s : Sl) (l : List Pl) (h : RdP W s l) (hl : l.length ≤ maxLen) (hfr : ∀ p ∈ l, p.frm.length ≤ maxLen) (t : Sl) (m : List Int) (hm : Rd W ci 1 t m) (_ : ∀ ad, t.a = some ad → 0 < m.length → ad.block < W.heap.size) (_ : m.length ≤ maxLen) :
    callC Try.prog 3 #[s.v, t.v] (fun (r : Bool) => .bool r) W fun r w' => r = true ∧ Below W.heap.size W w' := by
  have bq : ∀ {w : World}, Quiet W w → Below W.heap.size W w := fun q => q.below (Nat.le_refl _) fun _ e => e.elim
  have htl := hm.len
  have hl' : l.length ≤ 9223372036854775807 := by unfold maxLen at hl; omega
  have hfr' : ∀ p ∈ l, p.frm.length ≤ 9223372036854775807 := fun p hp => by have := hfr p hp; unfold maxLen at this; omega
  refine D3 _ _ W _ ?_
  unfold F3
  refine (small_c W).use ?_
  rintro r w1 ⟨rfl, q1⟩
  refine (few_c w1 s l 30 (h.keepQ q1) (by decide) (by decide) hl').use ?_
  rintro r w2 ⟨hfew, rfl⟩
  refine ⟨fun _ => ⟨rfl, bq q1⟩, fun hc => ?_⟩
  have hc' : r = true ∧ m.length ≤ 40 := by rw [htl] at hc; simp at hc; exact ⟨hc.1, by omega⟩
  obtain ⟨h30, h40⟩ := hfew hc'.1
  have args : ∀ {w' : World}, Quiet W w' → Args w' s l t m := fun q => ⟨h.keepQ q, hm.keepQ q, hl', fun p hp => by have := h40 p hp; omega, by omega⟩
  refine jn.mk (fun c w' => c = true ∧ Quiet W w') ⟨fun _ => ?_, fun hc => by cases hc⟩ ?_
  · refine (right_c w1 s l (h.keepQ q1) hl' hfr').use ?_
    rintro a w3 ⟨ha, q3⟩
    refine (rright_c w3 s l (h.keepQ (q1.tr q3)) hl' hfr').use ?_
    rintro b w4 ⟨hb, q4⟩
    refine ⟨?_, (q1.tr q3).tr q4⟩
    have : a = true ↔ b = true := ha.trans hb.symm
    cases a <;> cases b <;> simp_all
  have rb : (reachP m l).length ≤ 1000000 := by
    unfold reachP
    split
    · have := idx_len 0 (fl m l)
      rw [fl_len] at this
      omega
    · simp
  have ob : (orderP m l).length ≤ 1000000 := by
    unfold orderP
    split
    · have := idx_len 0 (marks m l.length)
      rw [marks_len] at this
      rw [List.length_reverse]
      omega
    · simp
  have kb : (kindsP m l).length ≤ 1000000 := by
    unfold kindsP
    split
    · rw [cnt_len]
      decide
    · simp
  rintro c w5 ⟨rfl, q5⟩
  refine jn.mk (fun c w' => c = true ∧ Quiet W w') ⟨fun _ => ?_, fun hc => by cases hc⟩ ?_
  · refine (reach_c w5 s t l m (args q5)).use ?_
    rintro a w6 ⟨Fa, oa, fa⟩
    refine (rreach_c w6 s t l m (args (q5.tr fa.q))).use ?_
    rintro b w7 ⟨Fb, ob', fb⟩
    refine (same_c w7 a b _ _ ((oa.keepQ fb.q).rd ci1 (by decide)) (ob'.rd ci1 (by decide)) rb).use ?_
    rintro r w8 ⟨rfl, q8⟩
    exact ⟨by simp, ((q5.tr fa.q).tr fb.q).tr q8⟩
  rintro c w9 ⟨rfl, q9⟩
  refine jn.mk (fun c w' => c = true ∧ Quiet W w') ⟨fun _ => ?_, fun hc => by cases hc⟩ ?_
  · refine (order_c w9 s t l m (args q9)).use ?_
    rintro a w6 ⟨Fa, oa, fa⟩
    refine (rorder_c w6 s t l m (args (q9.tr fa.q))).use ?_
    rintro b w7 ⟨Fb, ob', fb⟩
    refine (same_c w7 a b _ _ ((oa.keepQ fb.q).rd ci1 (by decide)) (ob'.rd ci1 (by decide)) ob).use ?_
    rintro r w8 ⟨rfl, q8⟩
    exact ⟨by simp, ((q9.tr fa.q).tr fb.q).tr q8⟩
  rintro c w13 ⟨rfl, q13⟩
  refine jn.mk (fun c w' => c = true ∧ Quiet W w') ⟨fun _ => ?_, fun hc => by cases hc⟩ ?_
  · refine (kinds_c w13 s t l m (args q13)).use ?_
    rintro a w6 ⟨Fa, oa, fa⟩
    refine (rkinds_c w6 s t l m (args (q13.tr fa.q))).use ?_
    rintro b w7 ⟨Fb, ob', fb⟩
    refine (same_c w7 a b _ _ ((oa.keepQ fb.q).rd ci1 (by decide)) (ob'.rd ci1 (by decide)) kb).use ?_
    rintro r w8 ⟨rfl, q8⟩
    exact ⟨by simp, ((q13.tr fa.q).tr fb.q).tr q8⟩
  rintro c w17 ⟨rfl, q17⟩
  exact ⟨rfl, bq q17⟩
end Go.Proofs.Ytjmjackeeiglmaa
