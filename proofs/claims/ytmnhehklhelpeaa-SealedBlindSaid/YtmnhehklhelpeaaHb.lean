import Derived.Test.YtmnhehklhelpeaaHa
namespace Go.Proofs.Ytmnhehklhelpeaa
open Go.Dec Go.RowKit
set_option maxHeartbeats 800000
set_option maxRecDepth 10000

/-! ### the reference -/
theorem mod_eq (x : Int) (h0 : -9223372036854775808 ≤ x) (h1 : x ≤ 9223372034707292160) : (IntKind.i64.wrap ((x.tmod 2147483647) + 2147483647)).tmod 2147483647 = x % 2147483647 := by
  have h2 : x.tmod 2147483647 = x % 2147483647 ∨ (x.tmod 2147483647 = x % 2147483647 - 2147483647 ∧ x % 2147483647 ≠ 0) := by
    rcases Int.le_total 0 x with h | h
    · exact .inl (Int.tmod_eq_emod_of_nonneg h)
    · have h2 : (-x).tmod 2147483647 = (-x) % 2147483647 := Int.tmod_eq_emod_of_nonneg (by omega)
      rw [Int.neg_tmod] at h2
      omega
  rw [w64 (by omega) (by omega), Int.tmod_eq_emod_of_nonneg (by omega)]
  omega
theorem mod_fld (x : Int) : Fld (x % 2147483647) := by unfold Fld; omega
theorem mod_c (w : World) (x : Int) (h0 : -9223372036854775808 ≤ x) (h1 : x ≤ 9223372036854775807) : callC Try.prog 47 #[.int .i64 x] (fun (r : Int) => .int .i64 r) w fun r w' => r = x % 2147483647 ∧ w = w' := by
  refine D47 _ w _ ?_
  unfold F47
  refine ⟨?_, rfl⟩
  have h2 : x.tmod 2147483647 = x % 2147483647 ∨ (x.tmod 2147483647 = x % 2147483647 - 2147483647 ∧ x % 2147483647 ≠ 0) := by
    rcases Int.le_total 0 x with h | h
    · exact .inl (Int.tmod_eq_emod_of_nonneg h)
    · have h2 : (-x).tmod 2147483647 = (-x) % 2147483647 := Int.tmod_eq_emod_of_nonneg (by omega)
      rw [Int.neg_tmod] at h2
      omega
  rw [w64 (by omega) (by omega), Int.tmod_eq_emod_of_nonneg (by omega)]
  omega
theorem cgm (x : Int) : cg (x % 2147483647) x := cg.mod x
theorem gcd_step {a b : Int} (a0 : 0 ≤ a) (b0 : 0 ≤ b) : Int.gcd b (a % b) = Int.gcd a b := by
  obtain ⟨A, rfl⟩ := Int.eq_ofNat_of_zero_le a0
  obtain ⟨B, rfl⟩ := Int.eq_ofNat_of_zero_le b0
  show Nat.gcd B (A % B) = Nat.gcd A B
  rw [Nat.gcd_comm, ← Nat.gcd_rec, Nat.gcd_comm]
/-- the inverse by Euclid's algorithm -/
theorem inverse_c (w : World) (n : Int) (hn : Fld n) : callC Try.prog 48 #[.int .i64 n] (fun (r : Int) => .int .i64 r) w fun r w' => Fld r ∧ (n ≠ 0 → cg r (invp n)) ∧ w = w' := by
  refine D48 _ w _ ?_
  unfold F48
  refine ⟨fun l w' => 0 ≤ l.1 ∧ l.1 ≤ 2147483647 ∧ 0 ≤ l.2.1 ∧ l.2.1 ≤ 2147483647 ∧ Fld l.2.2.1 ∧ Fld l.2.2.2 ∧ cg l.1 (l.2.2.1 * n) ∧ cg l.2.1 (l.2.2.2 * n) ∧ Int.gcd l.1 l.2.1 = Int.gcd 2147483647 n ∧ w = w', fun l _ => l.2.1.toNat, ⟨by (try dsimp only); omega, by (try dsimp only); omega, hn.1, by have := hn.2; (try dsimp only); omega, fld0, fld1, ?_, cg.of (by (try dsimp only); rw [Int.one_mul]), rfl, rfl⟩, ?_⟩
  · refine ⟨1, ?_⟩
    unfold M
    dsimp only
    omega
  rintro ⟨a, b, x, y⟩ w1 ⟨a0, a1, b0, b1, fx, fy, ca, cb, hg, rfl⟩
  dsimp only at a0 a1 b0 b1 fx fy ca cb hg ⊢
  refine ⟨fun g => ?_, fun g => ?_⟩
  · have g : 0 < b := of_decide_eq_true g
    have hq0 : 0 ≤ a / b := Int.ediv_nonneg a0 b0
    have hqa : a / b ≤ a := Int.ediv_le_self b a0
    have hqb : b * (a / b) + a % b = a := by have := Int.mul_ediv_add_emod a b; omega
    have hm0 := Int.emod_nonneg a (show b ≠ 0 by omega)
    have hm1 := Int.emod_lt_of_pos a g
    have hqy : 0 ≤ a / b * y ∧ a / b * y ≤ 4611686016279904256 := by
      have h1 := Int.mul_nonneg hq0 fy.1
      have h2 : a / b * y ≤ 2147483647 * 2147483647 := Int.mul_le_mul (by omega) (by have := fy.2; omega) fy.1 (by decide)
      exact ⟨h1, by omega⟩
    have hqb' : a / b * b = a - a % b := by rw [Int.mul_comm]; omega
    refine ⟨by omega, ?_⟩
    have e1 : a.tdiv b = a / b := Int.tdiv_eq_ediv_of_nonneg a0
    rw [e1, w64 (x := a / b) (by omega) (by omega), w64 (x := a / b * y) (by omega) (by omega), w64 (x := a / b * b) (by omega) (by omega), hqb', w64 (x := a - (a - a % b)) (by omega) (by omega)]
    have ft := tmod_fld hqy.1
    have ct := cg.tmod hqy.1
    generalize hT : (a / b * y).tmod 2147483647 = T at ft ct
    rw [w64 (x := x - T) (by have := fx.1; have := ft.2; omega) (by have := fx.2; have := ft.1; omega)]
    refine (mod_c w (x - T) (by have := fx.1; have := ft.2; omega) (by have := fx.2; have := ft.1; omega)).use ?_
    rintro _ w2 ⟨rfl, rfl⟩
    refine ⟨⟨b0, b1, by (try dsimp only); omega, by (try dsimp only); omega, fy, mod_fld _, cb, ?_, ?_, rfl⟩, by (try dsimp only); omega⟩
    · rw [show a - (a - a % b) = a - a / b * b by omega]
      refine (ca.sub ((cg.refl (a / b)).mul cb)).trans ?_
      refine cg.trans (cg.of ?_) (((cgm (x - T)).trans ((cg.refl x).sub ct)).symm.mul (cg.refl n))
      grind
    · rw [← hg, show a - (a - a % b) = a % b by omega]
      exact gcd_step a0 b0
  · have g : b = 0 := by have := of_decide_eq_false g; omega
    subst g
    refine ⟨fx, fun h0 => ?_, rfl⟩
    have hg1 : Int.gcd 2147483647 n = 1 := by
      rcases prime_pN.2 _ (show Int.gcd 2147483647 n ∣ pN from Int.gcd_dvd_natAbs_left _ _) with e | e
      · exact e
      · have : Int.gcd 2147483647 n ∣ n.natAbs := Int.gcd_dvd_natAbs_right _ _
        rw [e] at this
        have h2 := Nat.le_of_dvd (by omega) this
        have := hn.1
        have := hn.2
        unfold pN at h2
        omega
    rw [hg1, Int.gcd_zero_right] at hg
    have ha : a = 1 := by omega
    subst ha
    exact invp_uniq ca.symm
theorem wrong_c (w : World) (s : Sl) (l : List Pt) (k : Int) (h : Rd w pt 2 s l) (hl : l.length ≤ 1000) :
    callC Try.prog 40 #[s.v, .int .i64 k] (fun (r : Int) => .int .i64 r) w fun r w' => r = WrongP l k ∧ Quiet w w' := by
  have hsl := h.len
  refine D40 _ _ w _ ?_
  unfold F40 WrongP
  refine ⟨fun g => ?_, fun g => ?_⟩
  · rw [Bool.or_eq_true, decide_eq_true_eq, decide_eq_true_eq] at g
    rw [if_pos g]
    exact ⟨rfl, Only.refl _ _⟩
  have g : ¬ (k < 1 ∨ 20 < k) := by
    rw [Bool.or_eq_false_iff, decide_eq_false_iff_not, decide_eq_false_iff_not] at g
    omega
  rw [if_neg g]
  refine ⟨fun i w' => 0 ≤ i ∧ i ≤ l.length ∧ (∀ p ∈ l.take i.toNat, InR p) ∧ w = w', fun i _ => (l.length - i).toNat, ⟨by simp, by simp, by simp, rfl⟩, ?_⟩
  rintro i w1 ⟨i0, i1, hin, rfl⟩
  refine ⟨fun hi => ?_, fun hi => ?_⟩
  · have hi : i < (s.len : Int) := of_decide_eq_true hi
    obtain ⟨x, hx⟩ := getq (l := l) i0 (by omega)
    refine h.ixx i0 hx fun p hat _ => hat.ld (j := 0) rfl ?_
    refine jp_or (v := decide (20 < x.x)) (fun _ J hJ => h.ixx i0 hx fun p hat _ => hat.ld (j := 0) rfl hJ) ?_
    refine jp_or (v := decide (x.y < 0)) (fun _ J hJ => h.ixx i0 hx fun p hat _ => hat.ld (j := 1) rfl hJ) ?_
    refine jp_or (v := decide (2147483647 ≤ x.y)) (fun _ J hJ => h.ixx i0 hx fun p hat _ => hat.ld (j := 1) rfl hJ) ⟨fun g => ?_, fun g => ?_⟩
    · simp only [Bool.or_eq_true, decide_eq_true_eq] at g
      rw [if_pos (fun c => ?_)]
      · exact ⟨rfl, Only.refl _ _⟩
      · obtain ⟨⟨c1, c2⟩, c3, c4⟩ := c x (List.mem_of_getElem? hx)
        omega
    · simp only [Bool.or_eq_false_iff, decide_eq_false_iff_not] at g
      rw [w64 (by omega) (by omega)]
      refine ⟨⟨by omega, by omega, ?_, rfl⟩, by (try dsimp only); omega⟩
      rw [toNat_succ i0, take_next hx]
      intro p hp
      rcases List.mem_append.1 hp with e | e
      · exact hin p e
      · rw [List.mem_singleton.1 e]
        exact ⟨by omega, by omega, by omega⟩
  have hi : ¬ i < (s.len : Int) := of_decide_eq_false hi
  rw [List.take_of_length_le (by omega)] at hin
  rw [if_neg (fun c => c hin)]
  have hxs : ∀ (j : Nat), (l.map Pt.x)[j]? = (l[j]?).map Pt.x := fun j => List.getElem?_map
  refine ⟨fun i w' => 0 ≤ i ∧ i ≤ l.length ∧ i ≤ 21 ∧ ((l.map Pt.x).take i.toNat).Nodup ∧ Quiet w w', fun i _ => (l.length - i).toNat, ⟨by simp, by simp, by simp, by simp, Only.refl _ _⟩, ?_⟩
  rintro i w2 ⟨i0, i1, i21, hnd, q⟩
  refine ⟨fun hi => ?_, fun hi => ?_⟩
  · rw [Bool.and_eq_true, decide_eq_true_eq, decide_eq_true_eq] at hi
    obtain ⟨x, hx⟩ := getq (l := l) i0 (by omega)
    have hxx : (l.map Pt.x)[i.toNat]? = some x.x := by rw [hxs, hx]; rfl
    refine ⟨fun j w' => 0 ≤ j ∧ j ≤ i ∧ x.x ∉ (l.map Pt.x).take j.toNat ∧ Quiet w w', fun j _ => (i - j).toNat, ⟨by simp, i0, by simp, q⟩, ?_⟩
    rintro j w3 ⟨j0, j1, hno, q3⟩
    refine ⟨fun hj => ?_, fun hj => ?_⟩
    · have hj : j < i := of_decide_eq_true hj
      obtain ⟨y, hy⟩ := getq (l := l) j0 (by omega)
      have hyx : (l.map Pt.x)[j.toNat]? = some y.x := by rw [hxs, hy]; rfl
      refine jn_any' (W := w) (decide (x.x = y.x)) ?_ fun w5 q5 => ⟨fun g => ?_, fun g => ?_⟩
      · show tk _ _
        unfold tk
        replace q3 := q3.tr (Only.drew (fun _ => False) _)
        exact (h.keepQ q3).ixx i0 hx fun p hat _ => hat.ld (j := 0) rfl ((h.keepQ q3).ixx j0 hy fun p hat _ => hat.ld (j := 0) rfl ⟨rfl, q3⟩)
      · rw [if_pos (fun c => ?_)]
        · exact ⟨rfl, q5⟩
        · have e := of_decide_eq_true g
          rw [← e] at hyx
          obtain ⟨a1, a2⟩ := List.getElem?_eq_some_iff.1 hxx
          obtain ⟨b1, b2⟩ := List.getElem?_eq_some_iff.1 hyx
          have := (List.getElem_inj c).1 (a2.trans b2.symm)
          omega
      · have e := of_decide_eq_false g
        rw [w64 (by omega) (by omega)]
        refine ⟨⟨by omega, by omega, ?_, q5⟩, by (try dsimp only); omega⟩
        rw [toNat_succ j0, take_next hyx]
        simp only [List.mem_append, List.mem_singleton, not_or]
        exact ⟨hno, e⟩
    · have hj : ¬ j < i := of_decide_eq_false hj
      rw [show j.toNat = i.toNat by omega] at hno
      rw [w64 (by omega) (by omega)]
      refine ⟨⟨by omega, by omega, by omega, ?_, q3⟩, by (try dsimp only); omega⟩
      rw [toNat_succ i0, take_next hxx, List.nodup_append]
      refine ⟨hnd, by simp, fun a ha b hb e => hno ?_⟩
      rw [List.mem_singleton.1 hb] at e
      exact e ▸ ha
  · rw [Bool.and_eq_false_iff, decide_eq_false_iff_not, decide_eq_false_iff_not] at hi
    have hfull : (l.map Pt.x).Nodup := by
      by_cases e : l.length ≤ i.toNat
      · rwa [List.take_of_length_le (by simpa using e)] at hnd
      · exfalso
        have hlen : ((l.map Pt.x).take i.toNat).length ≤ ((List.range' 1 20).map fun (n : Nat) => (n : Int)).length := by
          have key : ∀ {l m : List Int}, l.Nodup → (∀ x ∈ l, x ∈ m) → l.length ≤ m.length := by
            intro l
            induction l with
            | nil => intro m _ _; exact Nat.zero_le _
            | cons x l ih =>
              intro m hn hs
              obtain ⟨h1, h2⟩ := List.nodup_cons.1 hn
              obtain ⟨m1, m2, rfl⟩ := List.append_of_mem (hs x (by simp))
              have : l.length ≤ (m1 ++ m2).length := ih h2 fun y hy => by
                have := hs y (by simp [hy])
                rw [List.mem_append, List.mem_cons] at this
                rw [List.mem_append]
                rcases this with h | h | h
                · exact .inl h
                · exact absurd (h ▸ hy) h1
                · exact .inr h
              simp at this ⊢
              omega
          refine key hnd fun x hx => ?_
          obtain ⟨p, hp, rfl⟩ := List.mem_map.1 (List.mem_of_mem_take hx)
          have := (hin p hp).1
          exact List.mem_map.2 ⟨p.x.toNat, by rw [List.mem_range'_1]; omega, by omega⟩
        simp at hlen
        omega
    rw [if_neg (fun c => c hfull)]
    exact ⟨rfl, q⟩
/-! ### Newton's form -/
theorem ddL_len (l : List Pt) : l.length = l.length := rfl
/-- the row of differences after a step has come down to place i -/
def ddRow (l : List Pt) (s i : Nat) (j : Nat) : Int := if i < j then dd l (min s j) j else dd l (min (s - 1) j) j
theorem poly_c (w : World) (s : Sl) (l : List Pt) (h : Rd w pt 2 s l) (hl : l.length ≤ 1000) (ho : ∀ p ∈ l, Okp p) (hd : (l.map Pt.x).Nodup) :
    callC Try.prog 45 #[s.v] Sl.v w fun r w' => (∃ (F : Nat → Prop) (ds : List Int), OwnF w' F 3 1 r (ds.flatMap ci) ∧ Fresh w w' F ∧ ds.length = l.length ∧ ∀ (j : Nat) (d : Int), ds[j]? = some d → Fld d ∧ cg d (dd l j j)) ∧ Quiet w w' := by
  have hsl := h.len
  refine D45 _ w _ ?_
  unfold F45
  rw [hsl]
  refine rn_make1 (n := l.length) apI zvI rfl (by unfold maxLen; omega) (by omega) fun r9 w1 F o1 hr9 f1 => ?_
  have o1 : OwnF w1 F 3 1 r9 ((List.replicate l.length (0 : Int)).flatMap ci) := by
    rw [← flat_rep (c := ci) (x := 0) (v := .int .i64 0) rfl]
    exact o1
  refine ⟨fun i w' => 0 ≤ i ∧ i ≤ l.length ∧ Fresh w w' F ∧ ∃ ds : List Int, OwnF w' F 3 1 r9 (ds.flatMap ci) ∧ ds.length = l.length ∧ (∀ (j : Nat) (d : Int), j < i.toNat → ds[j]? = some d → Fld d ∧ cg d (dd l 0 j)), fun i _ => (l.length - i).toNat, ⟨by simp, by simp, f1, _, o1, by simp, fun j d hj => absurd hj (by simp)⟩, ?_⟩
  rintro i w2 ⟨i0, i1, f2, ds, o2, hdl, hds⟩
  refine ⟨fun hi => ?_, fun hi => ?_⟩
  · have hi : i < (l.length : Int) := of_decide_eq_true hi
    obtain ⟨x, hx⟩ := getq (l := l) i0 (by omega)
    refine (h.keepQ f2.q).ixx i0 hx fun p hat _ => hat.ld (j := 1) rfl (o2.put (i := i) (y := x.y) ci1 i0 (by omega) (by decide) fun w3 o3 on3 _ => ?_)
    rw [w64 (by omega) (by omega)]
    refine ⟨⟨by omega, by omega, f2.only on3, _, o3, by rw [List.length_set]; exact hdl, fun j d hj he => ?_⟩, by (try dsimp only); omega⟩
    rw [toNat_succ i0] at hj
    by_cases e : j = i.toNat
    · subst e
      rw [List.getElem?_set_self (by omega)] at he
      injection he with he
      subst he
      exact ⟨(ho x (List.mem_of_getElem? hx)).2, cg.of (by rw [dd, (xAt_some hx).2])⟩
    · rw [List.getElem?_set_ne (by omega)] at he
      exact hds j d (by omega) he
  have hi : ¬ i < (l.length : Int) := of_decide_eq_false hi
  have hds0 : ∀ (j : Nat) (d : Int), ds[j]? = some d → Fld d ∧ cg d (dd l 0 j) := fun j d he => hds j d (by have := (List.getElem?_eq_some_iff.1 he).1; omega) he
  clear hds
  refine ⟨fun s w' => 1 ≤ s ∧ (s ≤ l.length ∨ s = 1) ∧ Fresh w w' F ∧ ∃ ds : List Int, OwnF w' F 3 1 r9 (ds.flatMap ci) ∧ ds.length = l.length ∧ (∀ (j : Nat) (d : Int), ds[j]? = some d → Fld d ∧ cg d (dd l (min (s.toNat - 1) j) j)), fun s _ => (l.length - s).toNat, ⟨by simp, .inr rfl, f2, ds, o2, hdl, fun j d he => by simpa using hds0 j d he⟩, ?_⟩
  clear hds0 o2 f2 hdl ds
  rintro st w4 ⟨s0, s1, f4, ds, o4, hdl, hds⟩
  refine ⟨fun hs => ?_, fun hs => ?_⟩
  rotate_left
  · have hs : ¬ st < (l.length : Int) := of_decide_eq_false hs
    refine ⟨⟨F, ds, o4, f4, hdl, fun j d he => ?_⟩, f4.q⟩
    have hj := (List.getElem?_eq_some_iff.1 he).1
    have := hds j d he
    rwa [show min (st.toNat - 1) j = j by omega] at this
  have hs : st < (l.length : Int) := of_decide_eq_true hs
  rw [w64 (x := (l.length : Int) - 1) (by omega) (by omega)]
  refine ⟨fun i w' => st - 1 ≤ i ∧ i ≤ l.length - 1 ∧ Fresh w w' F ∧ ∃ ds : List Int, OwnF w' F 3 1 r9 (ds.flatMap ci) ∧ ds.length = l.length ∧ (∀ (j : Nat) (d : Int), ds[j]? = some d → Fld d ∧ cg d (ddRow l st.toNat i.toNat j)), fun i _ => (i + 1).toNat, ⟨by omega, by omega, f4, ds, o4, hdl, fun j d he => ?_⟩, ?_⟩
  · have hj := (List.getElem?_eq_some_iff.1 he).1
    unfold ddRow
    rw [if_neg (by omega)]
    exact hds j d he
  clear hds o4 f4 hdl ds
  rintro i w5 ⟨i0, i1, f5, ds, o5, hdl, hds⟩
  refine ⟨fun hi => ?_, fun hi => ?_⟩
  rotate_left
  · have hi : ¬ st ≤ i := of_decide_eq_false hi
    rw [w64 (by omega) (by omega)]
    refine ⟨⟨by omega, by omega, f5, ds, o5, hdl, fun j d he => ?_⟩, by (try dsimp only); omega⟩
    have := hds j d he
    unfold ddRow at this
    split at this
    · rwa [show (st + 1).toNat - 1 = st.toNat by omega]
    · rw [show min ((st + 1).toNat - 1) j = min (st.toNat - 1) j by omega]
      exact this
  have hi : st ≤ i := of_decide_eq_true hi
  have i00 : 0 ≤ i := by omega
  have hr5 := o5.rd ci1 (by decide)
  obtain ⟨di, hdi⟩ := getq (l := ds) i00 (by omega)
  obtain ⟨dj, hdj⟩ := getq (l := ds) (i := i - 1) (by omega) (by omega)
  obtain ⟨xi, hxi⟩ := getq (l := l) i00 (by omega)
  obtain ⟨xj, hxj⟩ := getq (l := l) (i := i - st) (by omega) (by omega)
  obtain ⟨fi, ci_⟩ := hds _ _ hdi
  obtain ⟨fj, cj_⟩ := hds _ _ hdj
  have oi := (ho xi (List.mem_of_getElem? hxi)).1
  have oj := (ho xj (List.mem_of_getElem? hxj)).1
  unfold ddRow at ci_ cj_
  rw [if_neg (by omega), show min (st.toNat - 1) i.toNat = st.toNat - 1 by omega] at ci_
  rw [if_neg (by omega), show min (st.toNat - 1) (i - 1).toNat = st.toNat - 1 by omega] at cj_
  refine jn.mk (fun _ w' => Fresh w w' F ∧ ∃ ds : List Int, OwnF w' F 3 1 r9 (ds.flatMap ci) ∧ ds.length = l.length ∧ (∀ (j : Nat) (d : Int), ds[j]? = some d → Fld d ∧ cg d (ddRow l st.toNat (i - 1).toNat j))) ?_ ?_
  rotate_left
  · rintro _ w11 ⟨f11, ds', o11, hl', hd'⟩
    rw [w64 (by omega) (by omega)]
    exact ⟨⟨by omega, by omega, f11, ds', o11, hl', hd'⟩, by (try dsimp only); omega⟩
  show tk _ _
  unfold tk
  have qd : Quiet w5 w5.drew := Only.drew _ _
  have f6 := f5.keep qd
  have o6 := o5.keepQ qd
  have hr6 := hr5.keepQ qd
  have h6 := h.keepQ f6.q
  generalize w5.drew = w6 at *
  rw [w64 (x := i - 1) (by omega) (by omega), w64 (x := i - st) (by omega) (by omega)]
  have b1 := fi.1
  have b2 := fi.2
  have b3 := fj.1
  have b4 := fj.2
  refine hr6.ixx i00 hdi fun p22 hat22 _ => hat22.ld0 rfl (hr6.ixx (by omega) hdj fun p24 hat24 _ => hat24.ld0 rfl (h6.ixx i00 hxi fun p26 hat26 _ => hat26.ld (j := 0) rfl (h6.ixx (by omega) hxj fun p28 hat28 _ => hat28.ld (j := 0) rfl ?_)))
  rw [w64 (x := di - dj) (by omega) (by omega), w64 (x := xi.x - xj.x) (by omega) (by omega)]
  refine (mod_c w6 (di - dj) (by omega) (by omega)).use ?_
  rintro _ w7 ⟨rfl, rfl⟩
  have c22 := hat22.cell0
  have c24 := hat24.cell0
  have c26 := hat26.cj (j := 0) rfl
  have c28 := hat28.cj (j := 0) rfl
  refine ⟨c28, c26, c24, c22, (mod_c w6 (xi.x - xj.x) (by omega) (by omega)).use ?_⟩
  rintro _ w8 ⟨rfl, rfl⟩
  refine ⟨c28, c26, c24, c22, (inverse_c w6 _ (mod_fld _)).use ?_⟩
  rintro r32 w9 ⟨f32, k32, rfl⟩
  have hxne : xi.x ≠ xj.x := fun e => by
    have a1 : (l.map Pt.x)[i.toNat]? = some xi.x := by rw [List.getElem?_map, hxi]; rfl
    have a2 : (l.map Pt.x)[(i - st).toNat]? = some xi.x := by rw [List.getElem?_map, hxj, e]; rfl
    obtain ⟨x1, x2⟩ := List.getElem?_eq_some_iff.1 a1
    obtain ⟨y1, y2⟩ := List.getElem?_eq_some_iff.1 a2
    have := (List.getElem_inj hd).1 (x2.trans y2.symm)
    omega
  have k32 : cg r32 (invp (xi.x - xj.x)) := (k32 (by omega)).trans (cgm _).invp
  have m1 := mul_lt (mod_fld (di - dj)) f32
  rw [w64 (by omega) (by omega)]
  refine ⟨c28, c26, c24, c22, o6.put (i := i) (y := ((di - dj) % 2147483647 * r32).tmod 2147483647) ci1 i00 (by omega) (by decide) fun w10 o10 on10 _ => ⟨f6.only on10, _, o10, by rw [List.length_set]; exact hdl, fun j d he => ?_⟩⟩
  by_cases e : j = i.toNat
  · subst e
    rw [List.getElem?_set_self (by omega)] at he
    injection he with he
    subst he
    refine ⟨tmod_fld m1.1, (cg.tmod m1.1).trans ?_⟩
    unfold ddRow
    rw [if_pos (by omega), show min st.toNat i.toNat = (st.toNat - 1) + 1 by omega, dd]
    have e1 : xAt l i.toNat = xi.x := (xAt_some hxi).1
    have e2 : xAt l (i.toNat - (st.toNat - 1 + 1)) = xj.x := by
      rw [show i.toNat - (st.toNat - 1 + 1) = (i - st).toNat by omega]
      exact (xAt_some hxj).1
    rw [e1, e2, show i.toNat - 1 = (i - 1).toNat by omega]
    exact ((cgm _).trans (ci_.sub cj_)).mul k32
  · rw [List.getElem?_set_ne (by omega)] at he
    have := hds j d he
    unfold ddRow at this ⊢
    by_cases e' : i.toNat < j
    · rw [if_pos e'] at this
      rw [if_pos (by omega)]
      exact this
    · rw [if_neg e'] at this
      rw [if_neg (by omega)]
      exact this
/-- Newton's form from a place on -/
def newtH (l : List Pt) (x : Int) : Nat → Nat → Int
  | _, 0 => 0
  | i, n + 1 => dd l i i + (x - xAt l i) * newtH l x (i + 1) n
theorem newtH_eq (l : List Pt) (x : Int) : ∀ (n i : Nat), i + n ≤ l.length → newt l x (i + n) = newt l x i + pxs (l.take i) x * newtH l x i n
  | 0, i, _ => by
    show newt l x i = newt l x i + pxs (l.take i) x * 0
    omega
  | n + 1, i, h => by
    have h1 := newtH_eq l x n (i + 1) (by omega)
    obtain ⟨a, ha⟩ : ∃ a, l[i]? = some a := ⟨_, List.getElem?_eq_getElem (by omega)⟩
    rw [show i + (n + 1) = i + 1 + n by omega, h1, newt, newtH, take_next ha, pxs_app, (xAt_some ha).1]
    simp only [pxs]
    grind
theorem at_c (w : World) (s t : Sl) (l : List Pt) (ds : List Int) (x : Int) (h : Rd w pt 2 s l) (h' : Rd w ci 1 t ds) (hl : l.length ≤ 1000) (ho : ∀ p ∈ l, Okp p) (hx : 0 ≤ x ∧ x ≤ 20) (hdl : ds.length = l.length) (hds : ∀ (j : Nat) (d : Int), ds[j]? = some d → Fld d ∧ cg d (dd l j j)) :
    callC Try.prog 46 #[s.v, t.v, .int .i64 x] (fun (r : Int) => .int .i64 r) w fun r w' => Fld r ∧ cg r (newt l x l.length) ∧ Quiet w w' := by
  have htl := h'.len
  refine D46 _ _ _ w _ ?_
  unfold F46
  rw [w64 (by omega) (by omega)]
  refine ⟨fun c w' => -1 ≤ c.2 ∧ c.2 ≤ l.length - 1 ∧ Fld c.1 ∧ cg c.1 (newtH l x (c.2 + 1).toNat (l.length - (c.2 + 1).toNat)) ∧ Quiet w w', fun c _ => (c.2 + 1).toNat, ⟨by (try dsimp only); omega, by (try dsimp only); omega, fld0, ?_, Only.refl _ _⟩, ?_⟩
  · dsimp only
    rw [show l.length - ((t.len : Int) - 1 + 1).toNat = 0 by omega]
    exact cg.refl 0
  rintro ⟨y, i⟩ w1 ⟨i0, i1, fy, cy, q⟩
  dsimp only at i0 i1 fy cy ⊢
  refine ⟨fun hi => ?_, fun hi => ?_⟩
  · have hi : 0 ≤ i := of_decide_eq_true hi
    obtain ⟨a, ha⟩ := getq (l := l) hi (by omega)
    obtain ⟨d, hd⟩ := getq (l := ds) hi (by omega)
    have oa := (ho a (List.mem_of_getElem? ha)).1
    obtain ⟨fd, cd⟩ := hds _ _ hd
    refine jn.mk (fun r w' => Fld r ∧ cg r (newtH l x i.toNat (l.length - i.toNat)) ∧ Quiet w w') ?_ ?_
    · show tk _ _
      unfold tk
      replace q := q.tr (Only.drew (fun _ => False) _)
      refine (h.keepQ q).ixx hi ha fun p13 hat13 _ => hat13.ld (j := 0) rfl ((h'.keepQ q).ixx hi hd fun p15 hat15 _ => hat15.ld0 rfl ?_)
      rw [w64 (x := x - a.x) (by omega) (by omega)]
      refine (mod_c _ (x - a.x) (by omega) (by omega)).use ?_
      rintro _ w3 ⟨rfl, rfl⟩
      have m1 := mul_lt fy (mod_fld (x - a.x))
      have b1 := fd.1
      have b2 := fd.2
      rw [w64 (x := y * _) (by omega) (by omega), w64 (by omega) (by omega)]
      refine ⟨hat15.cell0, hat13.cj (j := 0) rfl, tmod_fld (by omega), (cg.tmod (by omega)).trans ?_, q⟩
      have : newtH l x i.toNat (l.length - i.toNat) = dd l i.toNat i.toNat + (x - xAt l i.toNat) * newtH l x (i.toNat + 1) (l.length - (i.toNat + 1)) := by
        have e : l.length - i.toNat = (l.length - (i.toNat + 1)) + 1 := by omega
        rw [e, newtH]
      rw [this, (xAt_some ha).1]
      rw [show (i + 1).toNat = i.toNat + 1 by omega] at cy
      refine ((cy.mul (cgm _)).add cd).trans (cg.of ?_)
      rw [Int.mul_comm, Int.add_comm]
    rintro r w4 ⟨fr, cr, q4⟩
    rw [w64 (by omega) (by omega)]
    refine ⟨⟨by (try dsimp only); omega, by (try dsimp only); omega, fr, ?_, q4⟩, by (try dsimp only); omega⟩
    rw [show (i - 1 + 1).toNat = i.toNat by omega]
    exact cr
  · have hi : ¬ 0 ≤ i := of_decide_eq_false hi
    rw [show (i + 1).toNat = 0 by omega, Nat.sub_zero] at cy
    refine ⟨fy, cy.trans (cg.of ?_), q⟩
    have := newtH_eq l x l.length 0 (by omega)
    rw [Nat.zero_add] at this
    rw [this]
    simp [newt, pxs]
end Go.Proofs.Ytmnhehklhelpeaa
