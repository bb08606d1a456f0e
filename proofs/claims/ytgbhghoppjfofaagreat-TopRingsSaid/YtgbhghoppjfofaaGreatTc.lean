import Derived.Test.YtgbhghoppjfofaaGreatTa
import Derived.Test.YtgbhghoppjfofaaGreatTb
namespace Go.Proofs.YtgbhghoppjfofaaGreat
open Go.Dec Go.RowKit Go.Top
set_option maxHeartbeats 400000
set_option maxRecDepth 10000

/-! ### comparing -/
theorem nan_c (w : World) (a : Int) : callC Tryz.prog 76 #[.int .i64 a] (fun (r : Bool) => .bool r) w fun r w' => r = false ∧ w = w' := by
  refine D76 _ w _ ?_
  unfold F76
  exact ⟨by simp, rfl⟩
theorem compare_c (w : World) (a b : Int) : callC Tryz.prog 51 #[.int .i64 a, .int .i64 b] (fun (r : Int) => .int .i64 r) w fun r w' => r = cmpI a b ∧ w = w' := by
  refine D51 _ _ w _ ?_
  unfold F51
  refine use_same (nan_c w a) (use_same (nan_c w b) ⟨fun e => (by cases e), fun _ => ⟨fun e => (by cases e), fun _ => ?_⟩⟩)
  unfold cmpI
  refine ⟨fun h => ⟨?_, rfl⟩, fun h => ⟨fun h' => ⟨?_, rfl⟩, fun h' => ⟨?_, rfl⟩⟩⟩
  · rw [if_pos (of_decide_eq_true h)]
  · rw [if_neg (of_decide_eq_false h), if_pos (of_decide_eq_true h')]
  · rw [if_neg (of_decide_eq_false h), if_neg (of_decide_eq_false h')]
theorem or_c (w : World) (s : Sl) (x y : Int) (h : Rd w ci 1 s [x, y]) : callC Tryz.prog 50 #[s.v] (fun (r : Int) => .int .i64 r) w fun r w' => r = (if x ≠ 0 then x else y) ∧ w = w' := by
  have hl := h.len
  simp at hl
  refine D50 _ w _ ?_
  unfold F50
  refine ⟨fun i w' => (i = 0 ∨ (i = 1 ∧ x = 0) ∨ (i = 2 ∧ x = 0 ∧ y = 0)) ∧ w = w', fun i _ => (2 - i).toNat, ⟨.inl rfl, rfl⟩, ?_⟩
  rintro i w' ⟨hi, rfl⟩
  refine ⟨fun hc => ?_, fun hc => ⟨?_, rfl⟩⟩
  · have hc := of_decide_eq_true hc
    rcases hi with rfl | ⟨rfl, hx⟩ | ⟨rfl, _⟩
    · refine h.ixx (Int.le_refl _) (x := x) rfl fun p hat _ => hat.ld0 rfl ⟨fun g => ⟨?_, rfl⟩, fun g => ⟨⟨.inr (.inl ⟨rfl, nt g⟩), rfl⟩, by (try dsimp only); decide⟩⟩
      rw [if_pos (nd g)]
    · refine h.ixx (by decide) (x := y) rfl fun p hat _ => hat.ld0 rfl ⟨fun g => ⟨?_, rfl⟩, fun g => ⟨⟨.inr (.inr ⟨rfl, hx, nt g⟩), rfl⟩, by (try dsimp only); decide⟩⟩
      rw [if_neg (by omega)]
    · omega
  · have hc := of_decide_eq_false hc
    rcases hi with rfl | ⟨rfl, hx⟩ | ⟨rfl, hx, hy⟩
    · omega
    · omega
    · rw [if_neg (by omega), hy]

/-! ### the queue -/
theorem to_c (w : World) (n a b : Int) : callC Tryz.prog 66 #[.int .i64 n, .int .i64 a, .int .i64 b] (fun (r : Bool) => .bool r) w fun r w' => r = decide (a ≤ n ∧ n ≤ b) ∧ w = w' := by
  refine D66 _ _ _ w _ ?_
  unfold F66
  exact ⟨by rw [Bool.decide_and], rfl⟩
theorem wright_c (w : World) (y : Wt) : callC Tryz.prog 44 #[wtv y] (fun (r : Bool) => .bool r) w fun r w' => r = decide (rightP y) ∧ Quiet w w' := by
  refine D44 _ _ _ _ w _ ?_
  unfold F44
  refine nwL fun b1 w1 hb1 q1 _ _ _ => ?_
  have hb : IsWt w1 b1 y := hb1
  have hA : ∀ w', Quiet w1 w' → AtC w' (Addr.mk b1 0 none) (wt y) := fun w' q => (hb.keepQ q).at
  have q := Only.refl (fun _ => False) w1
  refine (hA _ q).ld (j := 0) rfl (use_same (to_c _ _ _ _) ?_)
  refine jn_and (fun _ J hJ => (hA _ q).ld (j := 1) rfl (use_same (to_c _ _ _ _) (hJ _ (Only.refl _ _)))) fun w2 q2 => ?_
  replace q := q.tr q2
  refine jn_and (fun _ J hJ => (hA _ q).ld (j := 2) rfl (use_same (to_c _ _ _ _) (hJ _ (Only.refl _ _)))) fun w3 q3 => ?_
  replace q := q.tr q3
  refine jn_and (fun _ J hJ => (hA _ q).ld (j := 3) rfl (use_same (to_c _ _ _ _) (hJ _ (Only.refl _ _)))) fun w4 q4 => ?_
  replace q := q.tr q4
  refine ⟨?_, q1.tr q⟩
  rw [Bool.eq_iff_iff, decide_eq_true_iff]
  simp only [Bool.and_eq_true, decide_eq_true_eq]
  unfold rightP
  omega
theorem cloneW_c (w : World) (s : Sl) (l : List Wt) (h : Rd w wt 4 s l) (hl : l.length ≤ 1000) : callC Tryz.prog 42 #[s.v] Sl.v w fun r w' => ∃ F, OwnF w' F 70 4 r (l.flatMap wt) ∧ Fresh w w' F := by
  refine D42 _ w _ ?_
  unfold F42
  refine ⟨fun g => ?_, fun g => ?_⟩
  · obtain ⟨rfl, _⟩ := h.zero (Option.isNone_iff_eq_none.1 g)
    exact ⟨_, OwnF.nil _ _ _ _, Fresh.none w⟩
  · exact rn_copy apW h wt_len (by decide) wt_one (by unfold maxLen; omega) (by omega) fun r w' F o _ f => ⟨F, o, f⟩
theorem cloneJ_c (w : World) (s : Sl) (l : List Jb) (h : Rd w jbc 3 s l) (hl : l.length ≤ 1000) : callC Tryz.prog 85 #[s.v] Sl.v w fun r w' => ∃ F, OwnF w' F 103 3 r (l.flatMap jbc) ∧ Fresh w w' F := by
  refine D85 _ w _ ?_
  unfold F85
  refine ⟨fun g => ?_, fun g => ?_⟩
  · obtain ⟨rfl, _⟩ := h.zero (Option.isNone_iff_eq_none.1 g)
    exact ⟨_, OwnF.nil _ _ _ _, Fresh.none w⟩
  · exact rn_copy apJ h jbc_len (by decide) jbc_one (by unfold maxLen; omega) (by omega) fun r w' F o _ f => ⟨F, o, f⟩
/-- the index of the first one for which a closure says yes, or -1 -/
theorem indexW_c (w : World) (s : Sl) (l : List Wt) (f : Value) (g : Wt → Bool) (h : Rd w wt 4 s l) (hl : l.length ≤ 1000000)
    (hf : ∀ (w' : World) (x : Wt) (K : Bool → World → Prop), Quiet w w' → x ∈ l → (∀ w'', Quiet w' w'' → K (g x) w'') → cv Tryz.prog f [wtv x] (fun (r : Bool) => .bool r) w' K) :
    callC Tryz.prog 77 #[s.v, f] (fun (r : Int) => .int .i64 r) w fun r w' => ((r = -1 ∧ l.any g = false) ∨ (0 ≤ r ∧ (l.take r.toNat).any g = false ∧ ∃ x, l[r.toNat]? = some x ∧ g x = true)) ∧ Quiet w w' := by
  have hsl := h.len
  refine D77 _ _ w _ ?_
  unfold F77
  refine ⟨fun i w' => 0 ≤ i ∧ i ≤ l.length ∧ (l.take i.toNat).any g = false ∧ Quiet w w', fun i _ => (l.length - i).toNat, ⟨by omega, by omega, by simp, Only.refl _ _⟩, ?_⟩
  rintro i w1 ⟨i0, i1, hn, q1⟩
  refine ⟨fun hi => ?_, fun hi => ?_⟩
  · have hlt : i < l.length := by rw [hsl] at hi; exact of_decide_eq_true hi
    obtain ⟨x, hx⟩ := getq i0 hlt
    refine (h.keepQ q1).ixx i0 hx fun p hat _ => wt_ld hat (hf w1 x _ q1 (List.mem_of_getElem? hx) fun w2 q2 => ⟨fun hc => ⟨.inr ⟨i0, hn, x, hx, hc⟩, q1.tr q2⟩, fun hc => ?_⟩)
    rw [w64 (by omega) (by omega)]
    refine ⟨⟨by omega, by omega, ?_, q1.tr q2⟩, by (try dsimp only); omega⟩
    rw [toNat_succ i0, take_next hx, List.any_append, hn]
    simp [hc]
  · have hge : l.length ≤ i.toNat := by have := of_decide_eq_false hi; omega
    rw [List.take_of_length_le hge] at hn
    exact ⟨.inl ⟨rfl, hn⟩, q1⟩
theorem has1_c (w : World) (y : Wt) (b1 b2 : Nat) (e n : Int) (h1 : Blk w b1 3 #[.int .i64 e]) (h2 : Blk w b2 3 #[.int .i64 n]) :
    callC Tryz.prog 68 #[wtv y, .pointer (some ⟨b1, 0, none⟩), .pointer (some ⟨b2, 0, none⟩)] (fun (r : Bool) => .bool r) w fun r w' => r = decide (y.ev = e ∧ y.net = n) ∧ Quiet w w' := by
  refine D68 _ _ _ _ _ _ w _ ?_
  unfold F68
  refine nwL fun b w1 hb q _ _ _ => ?_
  have A : AtC w1 (Addr.mk b 0 none) (wt y) := IsWt.at hb
  refine A.ld (j := 0) rfl ((h1.keepQ q).ld0 rfl (jp_and (v := decide (y.net = n)) (fun _ J hJ => A.ld (j := 1) rfl ((h2.keepQ q).ld0 rfl hJ)) ⟨?_, q⟩))
  rw [Bool.decide_and]
theorem whas_c (w : World) (s : Sl) (l : List Wt) (e n : Int) (h : Rd w wt 4 s l) (hl : l.length ≤ 1000000) :
    callC Tryz.prog 45 #[s.v, .int .i64 e, .int .i64 n] (fun (r : Bool) => .bool r) w fun r w' => r = decide (hasP l e n) ∧ Quiet w w' := by
  refine D45 _ _ _ w _ ?_
  unfold F45
  refine nwL fun b1 w1 hb1 q1 _ _ _ => nwL fun b2 w2 hb2 q2 _ _ _ => ?_
  refine callC.use (R := fun r w' => r = decide (hasP l e n) ∧ Quiet w2 w') (D67 _ _ w2 _ ?_) fun r w' h => ⟨h.1, (q1.tr q2).tr h.2⟩
  unfold F67
  refine (indexW_c w2 s l _ (fun y => decide (y.ev = e ∧ y.net = n)) (h.keepQ (q1.tr q2)) hl fun w' x K q _ hK => ?_).use ?_
  · refine cv_mk (ca := [Value.pointer (some (Addr.mk b1 0 none)), Value.pointer (some (Addr.mk b2 0 none))]) Tryz.func68 NN_68 NB_68 rfl ((has1_c w' x b1 b2 e n (hb1.keepQ (q2.tr q)) (hb2.keepQ q)).use ?_)
    rintro r w'' ⟨rfl, q''⟩
    exact hK w'' q''
  · rintro r w3 ⟨hr, q3⟩
    refine ⟨?_, q3⟩
    rw [decide_eq_decide]
    rcases hr with ⟨rfl, hr⟩ | ⟨h0, _, x, hx, hg⟩
    · refine ⟨fun h => absurd h (by decide), fun ⟨y, hy, hh⟩ => ?_⟩
      have := List.any_eq_false.1 hr y hy
      simp [hh] at this
    · exact ⟨fun _ => ⟨x, List.mem_of_getElem? hx, of_decide_eq_true hg⟩, fun _ => h0⟩
theorem QW_fresh {l : List Wt} (h : QW l) {i : Nat} {x : Wt} (hx : l[i]? = some x) : ¬ hasP (l.take i) x.ev x.net := by
  rintro ⟨y, hy, e1, e2⟩
  obtain ⟨j, hj, rfl⟩ := List.getElem_of_mem hy
  obtain ⟨hi, rfl⟩ := List.getElem?_eq_some_iff.1 hx
  rw [List.length_take] at hj
  rw [List.getElem_take] at e1 e2
  exact List.pairwise_iff_getElem.1 h.2 j i (by omega) hi (by omega) ⟨e1, e2⟩
theorem queue_c (w : World) (s : Sl) (l : List Wt) (h : Rd w wt 4 s l) (hc : s.len ≤ s.cap) (hl : l.length ≤ 1000000) (hq : QW l) :
    callC Tryz.prog 43 #[s.v] (fun (r : Bool) => .bool r) w fun r w' => r = true ∧ Quiet w w' := by
  have hsl := h.len
  refine D43 _ w _ ?_
  unfold F43
  refine ⟨fun i w' => 0 ≤ i ∧ i ≤ l.length ∧ Quiet w w', fun i _ => (l.length - i).toNat, ⟨by omega, by omega, Only.refl _ _⟩, ?_⟩
  rintro i w1 ⟨i0, i1, q1⟩
  refine ⟨fun hi => ?_, fun hi => ⟨rfl, q1⟩⟩
  have hlt : i < l.length := by rw [hsl] at hi; exact of_decide_eq_true hi
  obtain ⟨x, hx⟩ := getq i0 hlt
  refine (h.keepQ q1).ixx i0 hx fun p hat _ => wt_ld hat (wt_box (x := x) fun b w2 hb q2 _ _ => ?_)
  refine jn.mk (fun c w' => c = false ∧ Quiet w2 w') ?_ ?_
  · show tk _ _
    unfold tk
    have qd : Quiet w2 w2.drew := Only.drew _ _
    refine wt_ld (hb.keepQ qd).at ((wright_c _ x).use ?_)
    rintro r w3 ⟨rfl, q3⟩
    have q23 := qd.tr q3
    rw [decide_eq_true (hq.1 x (List.mem_of_getElem? hx))]
    refine ⟨fun e => (by cases e), fun _ => (hb.keepQ q23).at.ld (j := 0) rfl ((hb.keepQ q23).at.ld (j := 1) rfl ?_)⟩
    refine rn_upto apW (h.keepQ ((q1.tr q2).tr q23)) hc i0 (by omega) fun r hr _ _ => ⟨(hb.keepQ q23).at.cj (j := 1) rfl, (hb.keepQ q23).at.cj (j := 0) rfl, (whas_c w3 r _ x.ev x.net hr (by rw [List.length_take]; omega)).use ?_⟩
    rintro r4 w4 ⟨rfl, q4⟩
    exact ⟨decide_eq_false (QW_fresh hq hx), q23.tr q4⟩
  rintro c w5 ⟨rfl, q5⟩
  refine ⟨fun e => (by cases e), fun _ => ?_⟩
  rw [w64 (by omega) (by omega)]
  exact ⟨⟨by omega, by omega, (q1.tr q2).tr q5⟩, by (try dsimp only); omega⟩
end Go.Proofs.YtgbhghoppjfofaaGreat
