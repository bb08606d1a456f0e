import Derived.Test.YtgbhghoppjfofaaGreatTd
namespace Go.Proofs.YtgbhghoppjfofaaGreat
open Go.Dec Go.RowKit Go.Top
set_option maxHeartbeats 800000
set_option maxRecDepth 10000

theorem jobs_next {n : Int} {l : List Wt} {i : Nat} {x : Wt} (h : l[i]? = some x) : jobs n (l.take (i + 1)) = jobs n (l.take i) ++ (if x.net = n then [jb x] else []) := by
  rw [take_next h]
  unfold jobs
  rw [List.filter_append, List.map_append]
  congr 1
  by_cases e : x.net = n
  · simp [e]
  · simp [e]
theorem jobs_len (n : Int) (l : List Wt) : (jobs n l).length ≤ l.length := by
  unfold jobs
  rw [List.length_map]
  exact List.length_filter_le _ _
theorem jobs_ok {n : Int} {l : List Wt} (h : QW l) (hl : l.length ≤ 1000) : JobsOK (jobs n l) := by
  refine ⟨fun j hj => ?_, ?_, Nat.le_trans (jobs_len n l) hl⟩
  · unfold jobs at hj
    obtain ⟨y, hy, rfl⟩ := List.mem_map.1 hj
    have := h.1 y (List.mem_filter.1 hy).1
    unfold rightP at this
    unfold jb
    dsimp only
    omega
  · unfold jobs
    rw [List.pairwise_map]
    refine (List.Pairwise.filter _ h.2).imp_of_mem fun {a b} ha hb hab e => hab ⟨e, ?_⟩
    have h1 := of_decide_eq_true (List.mem_filter.1 ha).2
    have h2 := of_decide_eq_true (List.mem_filter.1 hb).2
    omega
theorem put_c (w : World) (a : Ap) (s t : Sl) (l : List Wt) (x : Wt) (now : Int) (h : Rd w cb 1 s a.types) (hc : s.len ≤ s.cap) (hr : Rd w wt 4 t l) (htc : t.len ≤ t.cap) (hq : QW l) (hl : l.length ≤ 900) (h0 : 0 ≤ now) (h1 : now ≤ 1073741824) :
    callC Tryz.prog 21 #[pfv (pfOf a s), t.v, wtv x, .int .i64 now] (fun (r : Sl × Int) => .tuple #[r.1.v, .int .i64 r.2]) w fun r w' =>
      ∃ (out : List Wt) (F : Nat → Prop), PutR (CheckA a = 0) a.rate a.window a.down now l x r.2 out ∧ OwnF w' F 70 4 r.1 (out.flatMap wt) ∧ Fresh w w' F := by
  refine D21 _ _ _ _ _ _ _ _ _ _ _ _ _ _ _ _ _ _ _ _ _ _ _ _ _ _ _ _ w _ ?_
  unfold F21
  refine nwL fun b1 w1 hb1 q1 _ _ _ => nwL fun b2 w2 hb2 q2 _ _ _ => ?_
  have hP : IsPf w2 b1 (pfOf a s) := Blk.keepQ hb1 q2
  have hX : IsWt w2 b2 x := hb2
  have q02 := q1.tr q2
  refine (cloneW_c w2 t l (hr.keepQ q02) (by omega)).use ?_
  rintro r11 w3 ⟨F, o3, f3⟩
  refine (queue_c w3 t l (hr.keepQ (q02.tr f3.q)) htc (by omega) hq).use ?_
  rintro r12 w4 ⟨rfl, q4⟩
  have q24 := f3.q.tr q4
  have f24 : Fresh w w4 F := (f3.after q02).keep q4
  have o4 := o3.keepQ q4
  refine jn.mk (fun c w' => c = (!decide (rightP x)) ∧ Quiet w4 w') ⟨fun e => (by cases e), fun _ => wt_ld (hX.keepQ q24).at ((wright_c w4 x).use ?_)⟩ ?_
  · rintro r w5 ⟨rfl, q5⟩
    exact ⟨rfl, q5⟩
  rintro c w6 ⟨rfl, q6⟩
  refine ⟨fun g => ?_, fun g => ?_⟩
  · exact ⟨l, F, .inr ⟨fun hh => nd g hh.1, show (1 : Int) ≠ 0 by decide, rfl⟩, o4.keepQ q6, f24.keep q6⟩
  have hrx := nt g
  have q26 := q24.tr q6
  refine (hX.keepQ q26).at.ld (j := 0) rfl ((hX.keepQ q26).at.ld (j := 1) rfl ((whas_c w6 t l x.ev x.net (hr.keepQ (q02.tr q26)) (by omega)).use ?_))
  rintro r24 w7 ⟨rfl, q7⟩
  refine ⟨fun g => ?_, fun g => ?_⟩
  · exact ⟨l, F, .inr ⟨fun hh => hh.2.1 (of_decide_eq_true g), show (5 : Int) ≠ 0 by decide, rfl⟩, o4.keepQ (q6.tr q7), f24.keep (q6.tr q7)⟩
  have hnx := of_decide_eq_false g
  have hqm := hq.put hrx hnx
  have q27 := q26.tr q7
  refine jn.mk (fun r w' => ∃ G, OwnF w' G 70 4 r ((l ++ [x]).flatMap wt) ∧ Fresh w7 w' G) ?_ ?_
  · show tk _ _
    unfold tk
    have qd : Quiet w7 w7.drew := Only.drew _ _
    have q28 := q27.tr qd
    refine wt_ld (hX.keepQ q28).at ⟨?_, ?_⟩
    · refine (cloneW_c _ t l (hr.keepQ (q02.tr q28)) (by omega)).use ?_
      rintro r32 w9 ⟨G, o9, f9⟩
      have hln := (o9.rd wt_len (by decide)).len
      refine ⟨wt_cj (hX.keepQ (q28.tr f9.q)).at, OwnF.push (news := wt x) apW o9 rfl rfl (by unfold maxLen; omega) (by omega) fun r w11 G' o11 _ st11 => ⟨G', ?_, (f9.after qd).stp st11⟩⟩
      rw [List.flatMap_append, List.flatMap_singleton]
      exact o11
    · refine nwL fun b35 w12 hb12 q12 _ _ _ => (cloneW_c _ t l (hr.keepQ ((q02.tr q28).tr q12)) (by omega)).use ?_
      rintro r36 w13 ⟨G, o13, f13⟩
      have hln := (o13.rd wt_len (by decide)).len
      have hrow : Rd w13 wt 4 (⟨some ⟨b35, 0, none⟩, 1, 1⟩ : Sl) [x] := wt_row (l := [x]) (Blk.keepQ hb12 f13.q) rfl (by simp [wt])
      refine OwnF.app apW o13 hrow wt_len (by decide) wt_one (by simp [maxLen]; omega) (by simp; omega) fun r w14 G' o14 _ st14 => ⟨G', ?_, (f13.after (qd.tr q12)).stp st14⟩
      rw [List.flatMap_append]
      exact o14
  rintro r38 W ⟨G, oW, fW⟩
  have q2W := q27.tr fW.q
  have hXW := hX.keepQ q2W
  have hm := oW.rd wt_len (by decide)
  have hml := hm.len
  rw [List.length_append, List.length_singleton] at hml
  refine ⟨fun c w' => 0 ≤ c.2 ∧ c.2 ≤ l.length + 1 ∧ ∃ Fo, OwnF w' Fo 103 3 c.1 ((jobs x.net ((l ++ [x]).take c.2.toNat)).flatMap jbc) ∧ Fresh W w' Fo, fun c _ => (l.length + 1 - c.2).toNat, ⟨Int.le_refl _, by dsimp only; omega, _, OwnF.nil _ (fun _ => False) _ _, Fresh.none W⟩, ?_⟩
  rintro ⟨js, i⟩ w16 ⟨i0, i1, Fo, o16, f16⟩
  dsimp only at i0 i1 o16 ⊢
  refine ⟨fun hi => ?_, fun hi => ?_⟩
  · have hlt : i < (l ++ [x]).length := by have := of_decide_eq_true hi; rw [List.length_append, List.length_singleton]; omega
    obtain ⟨y, hy⟩ := getq i0 hlt
    rw [List.length_append, List.length_singleton] at hlt
    have hjl : js.len ≤ 901 := by
      have h1 := (o16.rd jbc_len (by decide)).len
      have h2 := jobs_len x.net ((l ++ [x]).take i.toNat)
      rw [List.length_take, List.length_append, List.length_singleton] at h2
      omega
    refine jn.mk (fun r w' => ∃ Fo, OwnF w' Fo 103 3 r ((jobs x.net ((l ++ [x]).take (i + 1).toNat)).flatMap jbc) ∧ Fresh W w' Fo) ?_ ?_
    · rw [toNat_succ i0, jobs_next hy]
      refine (hm.keepQ f16.q).ixx i0 hy fun p hat _ => wt_ld hat (wt_box (x := y) fun b w19 hb19 q19 _ _ => ?_)
      refine hb19.at.ld (j := 1) rfl ((hXW.keepQ (f16.q.tr q19)).at.ld (j := 1) rfl ⟨fun g => ?_, fun g => ?_⟩)
      · rw [if_pos (of_decide_eq_true g)]
        refine hb19.at.ld (j := 0) rfl (hb19.at.ld (j := 2) rfl (hb19.at.ld (j := 3) rfl (OwnF.push (news := jbc (jb y)) apJ (o16.keepQ q19) rfl rfl (by unfold maxLen; omega) (by omega) fun r w21 F' o21 _ st21 => ⟨F', ?_, (f16.keep q19).stp st21⟩)))
        rw [List.flatMap_append, List.flatMap_singleton]
        exact o21
      · rw [if_neg (of_decide_eq_false g), List.append_nil]
        exact ⟨Fo, o16.keepQ q19, f16.keep q19⟩
    rintro r w17 ⟨F', o17, f17⟩
    rw [w64 (by omega) (by omega)]
    exact ⟨⟨by (try dsimp only); omega, by (try dsimp only); omega, F', o17, f17⟩, by (try dsimp only); omega⟩
  rw [List.take_of_length_le (by have := of_decide_eq_false hi; rw [List.length_append, List.length_singleton]; omega)] at o16
  have q216 := q2W.tr f16.q
  refine pf_ld (hP.keepQ q216).at ((plan_c w16 a s js (jobs x.net (l ++ [x])) now (h.keepQ (q02.tr q216)) hc (o16.rd jbc_len (by decide)) (jobs_ok hqm (by rw [List.length_append, List.length_singleton]; omega)) h0 h1).use ?_)
  rintro ⟨r1, r2, e⟩ w22 ⟨hno, hyes, q22⟩
  dsimp only at hno hyes ⊢
  have q4e := ((q6.tr q7).tr (fW.q.tr f16.q)).tr q22
  refine ⟨fun g => ?_, fun g => ?_⟩
  · have he := nd g
    refine ⟨l, F, ?_, o4.keepQ q4e, f24.keep q4e⟩
    by_cases ok : CheckA a = 0
    · obtain ⟨l', p1, p2, ⟨_, p3⟩ | ⟨p3, p4⟩⟩ := hyes ok
      · exact absurd p3 he
      · exact .inl ⟨hrx, hnx, ok, l', p1, p2, .inr ⟨p3, he, rfl⟩⟩
    · exact .inr ⟨fun hh => ok hh.2.2, he, rfl⟩
  · have he := nt g
    have qWe := f16.q.tr q22
    refine ⟨l ++ [x], G, ?_, oW.keepQ qWe, (fW.keep qWe).after (q02.tr q27)⟩
    have ok : CheckA a = 0 := Decidable.byContradiction fun c => hno c he
    obtain ⟨l', p1, p2, ⟨p3, _⟩ | ⟨p3, p4⟩⟩ := hyes ok
    · exact .inl ⟨hrx, hnx, ok, l', p1, p2, .inl ⟨p3, rfl, rfl⟩⟩
    · exact absurd he p4
end Go.Proofs.YtgbhghoppjfofaaGreat
