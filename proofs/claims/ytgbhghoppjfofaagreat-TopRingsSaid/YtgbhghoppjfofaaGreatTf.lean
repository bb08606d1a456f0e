import Derived.Test.YtgbhghoppjfofaaGreatTe
import Derived.Test.YtgbhghoppjfofaaGreatCut
namespace Go.Proofs.YtgbhghoppjfofaaGreat
open Go.Dec Go.RowKit Go.Top
set_option maxHeartbeats 800000
set_option maxRecDepth 10000

/-! ### what is done goes -/
theorem zone34 : ∀ z, (Tryz.prog.info? 70).bind (·.zero) = some z → ∀ v ∈ z.cells, v.oneCell' = true := fun z hz => by
  have h : (Tryz.prog.info? 70).bind (·.zero) = some (.agg #[.int .i64 0, .int .i64 0, .int .i64 0, .int .i64 0]) := by kernel_rfl
  rw [h] at hz
  injection hz with hz
  subst hz
  intro v hv
  simp [Value.cells] at hv
  subst hv
  rfl
theorem step2_c (w : World) (y : Wt) : callC Tryz.prog 53 #[wtv y] (fun (r : Bool) => .bool r) w fun r w' => r = decide (y.left = 0) ∧ Quiet w w' := by
  refine D53 _ _ _ _ w _ ?_
  unfold F53
  refine nwL fun b w1 hb q _ _ _ => ?_
  have A : AtC w1 (Addr.mk b 0 none) (wt y) := IsWt.at hb
  exact A.ld (j := 2) rfl ⟨rfl, q⟩
def keepW (y : Wt) : Bool := decide (y.left ≠ 0)
theorem delete_c (w : World) (F : Nat → Prop) (s : Sl) (l : List Wt) (h : OwnF w F 70 4 s (l.flatMap wt)) (hl : l.length ≤ 1000) :
    callC Tryz.prog 52 #[s.v, .func (.func 53) #[] #[]] Sl.v w fun r w' => OwnF w' F 70 4 r ((l.filter keepW).flatMap wt) ∧ Only F w w' := by
  have hrd := h.rd wt_len (by decide)
  have hsl := hrd.len
  have hcv : ∀ (w' : World) (x : Wt) (K : Bool → World → Prop), (∀ w'', Quiet w' w'' → K (decide (x.left = 0)) w'') → cv Tryz.prog (.func (.func 53) #[] #[]) [wtv x] (fun (r : Bool) => .bool r) w' K := fun w' x K hK => by
    refine cv_mk (ca := []) Tryz.func53 NN_53 NB_53 rfl ((step2_c w' x).use ?_)
    rintro r w'' ⟨rfl, q⟩
    exact hK w'' q
  refine D52 _ _ w _ ?_
  unfold F52
  refine (indexW_c w s l _ (fun y => decide (y.left = 0)) hrd (by omega) fun w' x K _ _ hK => hcv w' x K hK).use ?_
  rintro r w1 ⟨hr, q1⟩
  have hkeep : ∀ y : Wt, keepW y = !decide (y.left = 0) := fun y => by unfold keepW; simp
  refine ⟨fun g => ?_, fun g => ?_⟩
  · have : r = -1 := of_decide_eq_true g
    rcases hr with ⟨_, hn⟩ | ⟨h0, _⟩
    · rw [List.filter_eq_self.2 fun y hy => by
        rw [hkeep]
        have := List.any_eq_false.1 hn y hy
        simpa using this]
      exact ⟨h.keepQ q1, q1.mono fun _ _ e => e.elim⟩
    · omega
  have hne : ¬ r = -1 := of_decide_eq_false g
  rcases hr with ⟨e, _⟩ | ⟨r0, hpre, x0, hx0, hg0⟩
  · exact absurd e hne
  have hrl : r.toNat < l.length := (List.getElem?_eq_some_iff.1 hx0).1
  have hft : ∀ {m : List Wt}, (m.any fun y => decide (y.left = 0)) = false → m.filter keepW = m := fun {m} hn => List.filter_eq_self.2 fun y hy => by
    rw [hkeep]
    have := List.any_eq_false.1 hn y hy
    simpa using this
  refine ⟨fun c w' => 0 ≤ c.1 ∧ c.1 < c.2 ∧ c.2 ≤ l.length ∧ (∃ m : List Wt, m.length = l.length ∧ OwnF w' F 70 4 s (m.flatMap wt) ∧ m.take c.1.toNat = (l.take c.2.toNat).filter keepW ∧ m.drop c.2.toNat = l.drop c.2.toNat) ∧ Only F w w', fun c _ => (l.length - c.2).toNat, ⟨r0, ?_, ?_, ⟨l, rfl, h.keepQ q1, ?_, ?_⟩, q1.mono fun _ _ e => e.elim⟩, ?_⟩
  · dsimp only
    rw [w64 (by omega) (by omega)]
    omega
  · dsimp only
    rw [w64 (by omega) (by omega)]
    omega
  · dsimp only
    rw [w64 (by omega) (by omega), toNat_succ r0, take_next hx0, List.filter_append, hft hpre]
    have : keepW x0 = false := by rw [hkeep, hg0]; rfl
    simp [this]
  · rfl
  rintro ⟨i, j⟩ w2 ⟨i0, hij, j1, ⟨m, hml, om, hmt, hmd⟩, on2⟩
  dsimp only at i0 hij j1 hmt hmd ⊢
  have hrm := om.rd wt_len (by decide)
  refine ⟨fun hi => ?_, fun hi => ?_⟩
  · have hlt : j < l.length := by have := of_decide_eq_true hi; omega
    obtain ⟨x, hx⟩ := getq (l := l) (i := j) (by omega) hlt
    have hxm : m[j.toNat]? = some x := by
      have h1 : (m.drop j.toNat)[0]? = (l.drop j.toNat)[0]? := by rw [hmd]
      rw [List.getElem?_drop, List.getElem?_drop, Nat.add_zero] at h1
      rw [h1, hx]
    have hmd1 : m.drop (j.toNat + 1) = l.drop (j.toNat + 1) := by
      rw [← List.drop_drop, ← List.drop_drop, hmd]
    refine jn.mk (fun i' w' => (i' = i ∨ i' = i + 1) ∧ i' < j + 1 ∧ (∃ m : List Wt, m.length = l.length ∧ OwnF w' F 70 4 s (m.flatMap wt) ∧ m.take i'.toNat = (l.take (j.toNat + 1)).filter keepW ∧ m.drop (j.toNat + 1) = l.drop (j.toNat + 1)) ∧ Only F w w') ?_ ?_
    · refine hrm.ixx (by omega) hxm fun p hat _ => wt_ld hat (wt_box (x := x) fun b w5 hb q5 g5 l5 => ?_)
      have on5 : Only F w w5 := on2.then_ q5 fun _ _ e => e.elim
      refine wt_ld hb.at (hcv w5 x _ fun w6 q6 => ?_)
      have on6 : Only F w w6 := on5.then_ q6 fun _ _ e => e.elim
      have om6 := om.keepQ (q5.tr q6)
      rw [take_next hx, List.filter_append]
      refine ⟨fun g => ?_, fun g => ?_⟩
      · have hk : keepW x = true := by rw [hkeep]; exact g
        refine wt_ld (hb.keepQ q6).at (OwnF.put (y := x) (i := i) om6 wt_len i0 (by omega) (by decide) fun w7 o7 on7 s7 => ⟨.inr (w64 (by omega) (by omega)), ?_, ⟨m.set i.toNat x, by simp [hml], o7, ?_, ?_⟩, on6.then_ on7 fun _ _ e => e⟩)
        · rw [w64 (by omega) (by omega)]
          omega
        · rw [w64 (by omega) (by omega), toNat_succ i0, take_next (x := x) (by rw [List.getElem?_set_self (by omega)]), List.take_set_of_le (Nat.le_refl _), hmt]
          simp [hk]
        · rw [List.drop_set_of_lt (by omega), hmd1]
      · have hk : keepW x = false := by rw [hkeep]; exact g
        exact ⟨.inl rfl, by omega, ⟨m, hml, om6, by rw [hmt]; simp [hk], hmd1⟩, on6⟩
    rintro i' w3 ⟨hi', hlt', hex, on3⟩
    rw [w64 (by omega) (by omega)]
    refine ⟨⟨by (try dsimp only); omega, by (try dsimp only); omega, by (try dsimp only); omega, ?_, on3⟩, by (try dsimp only); omega⟩
    (try dsimp only)
    rw [toNat_succ (by omega)]
    exact hex
  · have hjl : l.length ≤ j.toNat := by have := of_decide_eq_false hi; omega
    rw [List.take_of_length_le hjl] at hmt
    have hms := hrm.len
    refine rn_clearFrom apW zone34 om i0 (by omega) fun w9 o9 on9 s9 => rn_uptoX apW i0 (by have := om.cap; omega) ⟨?_, on2.then_ on9 fun _ _ e => e⟩
    rw [← hmt]
    have : (m.flatMap wt).take (i.toNat * 4) = (m.take i.toNat).flatMap wt := by
      conv => lhs; rw [← List.take_append_drop i.toNat m, List.flatMap_append]
      rw [List.take_left' (by rw [flat_len wt_len, List.length_take, Nat.min_eq_left (by omega)])]
    rwa [this] at o9

/-! ### the order of service -/
def keyD (l : List Wt) (i : Nat) : Int := ((l[i]?).map (·.due)).getD 0
def keyE (l : List Wt) (i : Nat) : Int := ((l[i]?).map (·.ev)).getD 0
theorem step1_c (w : World) (b : Nat) (s : Sl) (l : List Wt) (i j : Nat) (hi : i < l.length) (hj : j < l.length) (hl : l.length ≤ 1000) (hb : Blk w b 66 #[s.v]) (h : Rd w wt 4 s l) :
    callC Tryz.prog 49 #[.int .i64 (i : Int), .int .i64 (j : Int), .pointer (some ⟨b, 0, none⟩)] (fun (r : Int) => .int .i64 r) w fun r w' => r = cmp2 (keyD l i) (keyD l j) (keyE l i) (keyE l j) ∧ Gr w w' := by
  obtain ⟨x, hx⟩ : ∃ x, l[i]? = some x := ⟨_, List.getElem?_eq_getElem hi⟩
  obtain ⟨y, hy⟩ : ∃ y, l[j]? = some y := ⟨_, List.getElem?_eq_getElem hj⟩
  have e1 : keyD l i = x.due := by simp [keyD, hx]
  have e2 : keyD l j = y.due := by simp [keyD, hy]
  have e3 : keyE l i = x.ev := by simp [keyE, hx]
  have e4 : keyE l j = y.ev := by simp [keyE, hy]
  rw [e1, e2, e3, e4]
  refine D49 _ _ _ w _ ?_
  unfold F49
  refine jn.mk (fun r w' => r = cmp2 x.due y.due x.ev y.ev ∧ Gr w w') ?_ fun r w' h => h
  show tk _ _
  unfold tk
  have gd := Gr.drew w
  have hB := hb.keepQ gd.1
  have hR := h.keepQ gd.1
  have hc : ∀ w', Quiet w.drew w' → w'.cell? (Addr.mk b 0 none) = some (Sl.v s) := fun w' q => by
    rw [(hB.keepQ q).cell]
    rfl
  have q0 := Only.refl (fun _ => False) w.drew
  refine hB.ld0 rfl (hR.ixx (by omega) (x := x) (by simpa using hx) fun p1 h1 _ => h1.ld (j := 3) rfl (hB.ld0 rfl (hR.ixx (by omega) (x := y) (by simpa using hy) fun p2 h2 _ => h2.ld (j := 3) rfl ?_)))
  refine hB.ld0 rfl (hR.ixx (by omega) (x := x) (by simpa using hx) fun p3 h3 _ => h3.ld (j := 0) rfl (hB.ld0 rfl (hR.ixx (by omega) (x := y) (by simpa using hy) fun p4 h4 _ => h4.ld (j := 0) rfl ?_)))
  refine use_same (compare_c _ _ _) ⟨h4.cj (j := 0) rfl, hc _ q0, h3.cj (j := 0) rfl, hc _ q0, hc _ q0, hc _ q0, use_same (compare_c _ _ _) ⟨hc _ q0, hc _ q0, hc _ q0, hc _ q0, ?_⟩⟩
  refine nwG fun b3 w3 hb3 g3 _ _ => ⟨hc _ g3.1, hc _ g3.1, hc _ g3.1, hc _ g3.1, (or_c w3 _ (cmpI x.due y.due) (cmpI x.ev y.ev) (ints_row hb3 rfl rfl)).use ?_⟩
  rintro r w4 ⟨rfl, rfl⟩
  exact ⟨hc _ g3.1, hc _ g3.1, hc _ g3.1, hc _ g3.1, rfl, gd.trans g3⟩
end Go.Proofs.YtgbhghoppjfofaaGreat
