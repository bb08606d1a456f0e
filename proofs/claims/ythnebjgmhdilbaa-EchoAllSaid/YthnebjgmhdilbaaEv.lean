import Derived.Test.YthnebjgmhdilbaaEq
namespace Go.Proofs.Ythnebjgmhdilbaa
open Go.Dec Go.RowKit
set_option maxHeartbeats 400000

theorem pairs_pre (l : List Cp) (near : Int) (a b : List Cp) : ∃ r, pairsD l near (a ++ b) = pairsD l near a ++ r := by
  unfold pairsD
  rw [List.foldl_append]
  generalize List.foldl _ [] a = acc
  induction b generalizing acc with
  | nil => exact ⟨[], by simp⟩
  | cons c b ih =>
    obtain ⟨r, e⟩ := ih (acc ++ [stepD l near acc c])
    exact ⟨stepD l near acc c :: r, by rw [List.foldl_cons, e]; simp⟩
theorem pairsD_take (l : List Cp) (near : Int) (cs : List Cp) (i : Nat) (h : i ≤ cs.length) : pairsD l near (cs.take i) = (pairsD l near cs).take i := by
  obtain ⟨r, e⟩ := pairs_pre l near (cs.take i) (cs.drop i)
  rw [List.take_append_drop] at e
  have hl : (pairsD l near (cs.take i)).length = i := by rw [pairsD_len, List.length_take]; omega
  rw [e, List.take_append_of_le_length (by omega)]
  exact (List.take_of_length_le (by omega)).symm
theorem pairs_at (l : List Cp) (near : Int) {cs : List Cp} {i : Nat} {c : Cp} (h : cs[i]? = some c) : (pairsD l near cs)[i]? = some (stepD l near ((pairsD l near cs).take i) c) := by
  obtain ⟨hi, _⟩ := List.getElem?_eq_some_iff.1 h
  have e := pairsD_take l near cs (i + 1) hi
  have e0 := pairsD_take l near cs i (by omega)
  rw [take_next h, pairsD_snoc, e0] at e
  have hl : ((pairsD l near cs).take i).length = i := by rw [List.length_take, pairsD_len]; omega
  have : ((pairsD l near cs).take (i + 1))[i]? = some (stepD l near ((pairsD l near cs).take i) c) := by
    rw [← e, List.getElem?_append_right (by omega), hl]
    simp
  rwa [List.getElem?_take_of_lt (by omega)] at this
theorem best_law {l : List Cp} {c x : Cp} {near k : Int} {used : Int → Bool} (k0 : 0 ≤ k) (hk : l[k.toNat]? = some x) :
    (lastOf l c near used = k → may x c near ∧ used k = false) ∧ (may x c near → used k = false → k ≤ lastOf l c near used) := by
  have hok : okP l c near used k.toNat = (decide (may x c near) && !used k) := by
    unfold okP
    rw [hk, show ((k.toNat : Nat) : Int) = k by omega]
  have hlt := (List.getElem?_eq_some_iff.1 hk).1
  unfold lastOf
  rcases lastP_spec (okP l c near used) l.length with ⟨h1, h2⟩ | ⟨i, h1, h2, h3, h4⟩
  · refine ⟨fun e => by omega, fun h h' => ?_⟩
    have := h2 k.toNat hlt
    rw [hok, h'] at this
    simp at this
    exact absurd h this
  · rw [h2]
    refine ⟨fun e => ?_, fun h h' => ?_⟩
    · have : i = k.toNat := by omega
      rw [this, hok] at h3
      simpa using h3
    · refine Int.not_lt.1 fun e => ?_
      have := h4 k.toNat (by omega) hlt
      rw [hok, h'] at this
      simp at this
      exact absurd h this

theorem pairsL_c (w : World) (s t : Sl) (l cs : List Cp) (near : Int) (h : Rd w cp 5 s l) (h' : Rd w cp 5 t cs) (hl : l.length ≤ maxLen) (hl' : cs.length ≤ maxLen) (hn : near ≤ 9223372036854775807) :
    callC Try.prog 4 #[s.v, t.v, .int .i64 near] (fun (r : Bool) => .bool r) w fun r w' => r = true ∧ Quiet w w' := by
  have hsl := h.len
  have htl := h'.len
  refine D4 _ _ _ w _ ?_
  unfold F4
  refine (small_c w).use ?_
  rintro r1 w1 ⟨rfl, q1⟩
  refine jn.mk (fun c w' => (c = false → l.length ≤ 40 ∧ cs.length ≤ 40 ∧ calmP l) ∧ w1 = w') ⟨fun _ => ⟨fun e => by simp at e, rfl⟩, fun hc => ?_⟩ ?_
  · have hb : l.length ≤ 40 ∧ cs.length ≤ 40 := by rw [hsl, htl] at hc; simp at hc; omega
    refine (calm_c w1 s l (h.keepQ q1) (by omega)).use ?_
    rintro r6 w2 ⟨rfl, rfl⟩
    exact ⟨fun e => ⟨hb.1, hb.2, by simpa using e⟩, rfl⟩
  rintro c7 w3 ⟨hc7, rfl⟩
  refine jn.mk (fun c w' => (c = false → (l.length ≤ 40 ∧ cs.length ≤ 40 ∧ calmP l) ∧ calmP cs) ∧ w1 = w') ⟨fun _ => ⟨fun e => by simp at e, rfl⟩, fun hc => ?_⟩ ?_
  · have hb := hc7 hc
    refine (calm_c w1 t cs (h'.keepQ q1) (by omega)).use ?_
    rintro r6 w2 ⟨rfl, rfl⟩
    exact ⟨fun e => ⟨hb, by simpa using e⟩, rfl⟩
  rintro c11 w5 ⟨hc11, rfl⟩
  refine ⟨fun _ => ⟨rfl, q1⟩, fun hc => ?_⟩
  obtain ⟨⟨hb1, hb2, hs⟩, hs'⟩ := hc11 hc
  refine (pairs_c w1 s t l cs near (h.keepQ q1) (h'.keepQ q1) (by omega) (by omega) hs.i hs'.i hn).use ?_
  rintro r13 w6 ⟨F, o, f⟩
  have hr := o.rd ci1 (by decide)
  have hrl := hr.len
  rw [pairsP_len] at hrl
  have q6 := q1.tr f.q
  refine ⟨fun hc => by rw [hrl, htl] at hc; simp at hc, fun _ => ?_⟩
  have hdl := pairsD_len l near cs
  have hat := fun (i : Nat) (c : Cp) (h : cs[i]? = some c) => pairs_at l near h
  have hsnd := pairsD_snd l near cs
  unfold pairsP at hr
  generalize pairsD l near cs = D at *
  refine ⟨fun i w' => 0 ≤ i ∧ i ≤ cs.length ∧ Quiet w6 w', fun i _ => (cs.length - i).toNat, ⟨by omega, by omega, Only.refl _ _⟩, ?_⟩
  rintro i w7 ⟨i0, i1, q7⟩
  refine ⟨fun hi => ?_, fun _ => ⟨rfl, q6.tr q7⟩⟩
  have hlt : i < cs.length := by rw [hrl] at hi; simpa using hi
  obtain ⟨c, hc⟩ := getq i0 hlt
  have hcs := hs' c (List.mem_of_getElem? hc)
  refine (h'.keepQ (q6.tr q7)).ixx i0 hc fun p hp _ => ld5 hp (box5 fun b23 w9 hb23 q9 _ _ => ?_)
  have q69 := q7.tr q9
  have q09 := q6.tr q69
  have hDi := hat i.toNat c hc
  unfold stepD at hDi
  have hDi1 : (D.map Prod.fst)[i.toNat]? = some (lastOf l c near (usedD (D.take i.toNat) (netP c.acc))) := by rw [List.getElem?_map, hDi]; rfl
  have hrng := lastP_rng (okP l c near (usedD (D.take i.toNat) (netP c.acc))) l.length
  have hbest := fun (k : Int) (x : Cp) (k0 : 0 ≤ k) (hk : l[k.toNat]? = some x) => best_law (c := c) (near := near) (used := usedD (D.take i.toNat) (netP c.acc)) k0 hk
  generalize hn0 : lastOf l c near (usedD (D.take i.toNat) (netP c.acc)) = n at *
  unfold lastOf at hn0
  rw [hn0] at hrng
  refine (hr.keepQ q69).ixx i0 hDi1 fun p hp _ => hp.ld0 rfl (jp.val false ⟨fun hc => ?_, fun _ => (hr.keepQ q69).ixx i0 hDi1 fun p hp _ => hp.ld0 rfl ?_⟩ ⟨fun hc => (by cases hc), fun _ => ?_⟩)
  · exact absurd (of_decide_eq_true hc) (by omega)
  · rw [hsl]
    exact decide_eq_false (by omega)
  refine ⟨fun k w' => 0 ≤ k ∧ k ≤ l.length ∧ Quiet w9 w', fun k _ => (l.length - k).toNat, ⟨by omega, by omega, Only.refl _ _⟩, ?_⟩
  rintro k w10 ⟨k0, k1, q10⟩
  refine ⟨fun hk => ?_, fun _ => ?_⟩
  · have hkl : k < l.length := by rw [hsl] at hk; simpa using hk
    obtain ⟨x, hx⟩ := getq k0 hkl
    have hxs := hs x (List.mem_of_getElem? hx)
    obtain ⟨best1, best2⟩ := hbest k x k0 hx
    refine (h.keepQ (q09.tr q10)).ixx k0 hx fun p hp _ => ld5 hp (box5 fun b41 w12 hb41 q12 _ _ => ?_)
    have q912 := q10.tr q12
    have hC := hb23.keepQ q912
    refine jn.mk (fun b w' => b = decide (may x c near) ∧ Quiet w12 w') ?_ ?_
    · show tk w12 _
      unfold tk
      have qd : Quiet w12 w12.drew := Only.drew _ _
      have X := (hb41.keepQ qd).at
      have C := (hC.keepQ qd).at
      refine X.ld (j := 1) rfl (C.ld (j := 1) rfl ⟨fun g1 => X.ld (j := 3) rfl (C.ld (j := 3) rfl ⟨fun g2 => X.ld (j := 4) rfl (C.ld (j := 4) rfl ⟨fun g3 => X.ld (j := 2) rfl (C.ld (j := 2) rfl ⟨fun g4 => C.ld (j := 2) rfl (X.ld (j := 2) rfl ⟨fun g5 => X.ld (j := 0) rfl (C.ld (j := 0) rfl ?_), fun g => ?_⟩), fun g => ?_⟩), fun g => ?_⟩), fun g => ?_⟩), fun g => ?_⟩)
      · have g4' : x.step ≤ c.step := of_decide_eq_true g4
        rw [w64 (by omega) (by omega)] at g5
        refine (net_c _ _).use ?_
        rintro r w14 ⟨rfl, rfl⟩
        refine ⟨C.cj rfl, X.cj rfl, C.cj rfl, C.cj rfl, X.cj rfl, C.cj rfl, X.cj rfl, C.cj rfl, X.cj rfl, C.cj rfl, X.cj rfl, (net_c _ _).use ?_⟩
        rintro r w14 ⟨rfl, rfl⟩
        refine ⟨X.cj rfl, C.cj rfl, C.cj rfl, X.cj rfl, C.cj rfl, X.cj rfl, C.cj rfl, X.cj rfl, C.cj rfl, X.cj rfl, ?_, qd⟩
        have g5' : c.step - x.step ≤ near := of_decide_eq_true g5
        rw [Bool.eq_iff_iff, decide_eq_true_iff]
        simp
        unfold may agree
        exact ⟨fun e => ⟨by omega, ⟨of_decide_eq_true g1, of_decide_eq_true g2, of_decide_eq_true g3⟩, e, g4', g5'⟩, fun e => e.2.2.1⟩
      · have g4' : x.step ≤ c.step := of_decide_eq_true g4
        rw [w64 (by omega) (by omega)] at g
        exact ⟨(decide_eq_false fun m => of_decide_eq_false g m.2.2.2.2).symm, qd⟩
      · exact ⟨(decide_eq_false fun m => of_decide_eq_false g m.2.2.2.1).symm, qd⟩
      · exact ⟨(decide_eq_false fun m => of_decide_eq_false g m.2.1.2.2).symm, qd⟩
      · exact ⟨(decide_eq_false fun m => of_decide_eq_false g m.2.1.2.1).symm, qd⟩
      · exact ⟨(decide_eq_false fun m => of_decide_eq_false g m.2.1.1).symm, qd⟩
    rintro fits w16 ⟨hfits, q16⟩
    refine jn.mk (fun b w' => b = false ∧ Quiet w12 w') ?_ ?_
    · show tk w16 _
      unfold tk
      have qd : Quiet w12 w16.drew := q16.tr (Only.drew _ _)
      refine ld5 (hb41.keepQ qd).at (ld5 (hC.keepQ qd).at ((hb41.keepQ qd).at.ld (j := 1) rfl ((hC.keepQ qd).at.ld (j := 1) rfl ((score_c _ x c).use ?_))))
      rintro r79 w18 ⟨hr79, q18⟩
      have q1218 := qd.tr q18
      have X := (hb41.keepQ q1218).at
      have C := (hC.keepQ q1218).at
      have hag : decide (r79 = 3) = decide (agree x c) := by rw [hr79, decide_eq_decide, score_3]
      have fin : ∀ {R : Bool → World → Prop}, R = (fun b w' => b = false ∧ Quiet w12 w') → ix r13 i 1 fun p87 => ld (Value.int .i64) p87 w18 fun x88 => cnd (decide (x88 = k)) (R (!fits) w18) (R false w18) := by
        rintro R rfl
        refine (hr.keepQ ((q69.tr q912).tr q1218)).ixx i0 hDi1 fun p hp _ => hp.ld0 rfl ⟨fun g => ?_, fun _ => ⟨rfl, q1218⟩⟩
        have := (best1 (of_decide_eq_true g)).1
        exact ⟨by rw [hfits]; simp [this], q1218⟩
      refine ⟨C.cj rfl, X.cj rfl, ⟨fun g1 => X.ld (j := 3) rfl (C.ld (j := 3) rfl ⟨fun g2 => X.ld (j := 4) rfl (C.ld (j := 4) rfl ⟨fun g => ?_, fun _ => fin rfl⟩), fun g2 => ⟨fun g => ?_, fun _ => fin rfl⟩⟩), fun g1 => ⟨fun g => ?_, fun _ => fin rfl⟩⟩⟩
      · refine absurd g ?_
        have : decide (agree x c) = decide (x.quote = c.quote) := by
          rw [decide_eq_decide]
          exact ⟨fun e => e.2.2, fun e => ⟨of_decide_eq_true g1, of_decide_eq_true g2, e⟩⟩
        rw [hag, this]
        simp
      · refine absurd g ?_
        rw [hag, decide_eq_false fun e : agree x c => of_decide_eq_false g2 e.2.1]
        simp
      · refine absurd g ?_
        rw [hag, decide_eq_false fun e : agree x c => of_decide_eq_false g1 e.1]
        simp
    rintro _ w19 ⟨rfl, q19⟩
    refine ⟨fun g => (by cases g), fun _ => ?_⟩
    refine ⟨fun (b : Bool × Int) w' => 0 ≤ b.2 ∧ b.2 ≤ i ∧ b.1 = usedD (D.take b.2.toNat) (netP c.acc) k ∧ Quiet w12 w', fun b _ => (i - b.2).toNat, ⟨by simp, i0, by simp [usedD], q19⟩, ?_⟩
    rintro ⟨ud, j⟩ w20 ⟨j0, j1, hud, q20⟩
    dsimp only at j0 j1 hud ⊢
    have q620 := (q69.tr q912).tr q20
    refine ⟨fun hj => ?_, fun hj => ?_⟩
    · have hji : j < i := of_decide_eq_true hj
      obtain ⟨⟨a, m⟩, hd⟩ := getq (l := D) j0 (by omega)
      have hd1 : (D.map Prod.fst)[j.toNat]? = some a := by rw [List.getElem?_map, hd]; rfl
      obtain ⟨y, hy⟩ := getq (l := cs) j0 (by omega)
      have hm : m = netP y.acc := by
        have e1 : (D.map Prod.snd)[j.toNat]? = some m := by rw [List.getElem?_map, hd]; rfl
        rw [hsnd, List.getElem?_map, hy] at e1
        injection e1 with e1
        exact e1.symm
      refine jn.mk (fun b w' => b = (ud || decide (a = k ∧ m = netP c.acc)) ∧ Quiet w12 w') ?_ ?_
      · show tk w20 _
        unfold tk
        have qd : Quiet w12 w20.drew := q20.tr (Only.drew _ _)
        have q6d := (q69.tr q912).tr qd
        refine ⟨fun hu => ⟨by (have : ud = true := hu); rw [this]; rfl, qd⟩, fun hu => ?_⟩
        have hu : ud = false := hu
        rw [hu]
        refine (hr.keepQ q6d).ixx j0 hd1 fun p hp _ => hp.ld0 rfl ⟨fun g => ?_, fun g => ?_⟩
        · have hak : a = k := of_decide_eq_true g
          have C := (hC.keepQ qd).at
          refine (h'.keepQ (q6.tr q6d)).ixx j0 hy fun p1 hp1 _ => hp1.ld (j := 0) rfl (C.ld (j := 0) rfl ((net_c _ _).use ?_))
          rintro r w22 ⟨rfl, rfl⟩
          refine ⟨C.cj rfl, hp.cell0, (net_c _ _).use ?_⟩
          rintro r w23 ⟨rfl, rfl⟩
          refine ⟨hp.cell0, ?_, qd⟩
          rw [← hm]
          simp [hak]
        · have hak : ¬ a = k := of_decide_eq_false g
          exact ⟨by simp [hak], qd⟩
      · rintro b w24 ⟨rfl, q24⟩
        rw [w64 (by omega) (by omega)]
        refine ⟨⟨by (try dsimp only); omega, by (try dsimp only); omega, ?_, q24⟩, by (try dsimp only); omega⟩
        show _ = usedD (D.take (j + 1).toNat) (netP c.acc) k
        rw [toNat_succ j0, take_next hd, usedD_snoc, hud]
    · have hji : j = i := by
        have := of_decide_eq_false hj
        omega
      subst hji
      refine (hr.keepQ q620).ixx i0 hDi1 fun p hp _ => hp.ld0 rfl (jp.val false ⟨fun g => ?_, fun _ => jp.val false ⟨fun g => (hr.keepQ q620).ixx i0 hDi1 fun p hp _ => hp.ld0 rfl ?_, fun _ => rfl⟩ rfl⟩ ⟨fun g => (by cases g), fun _ => ?_⟩)
      · rw [hud, Bool.and_eq_true] at g
        have := (best1 (of_decide_eq_true g.1)).2
        rw [this] at g
        exact absurd g.2 (by decide)
      · rw [hfits, hud, Bool.and_eq_true, Bool.not_eq_true'] at g
        have := best2 (of_decide_eq_true g.1) g.2
        exact decide_eq_false (by omega)
      · rw [w64 (by omega) (by omega)]
        exact ⟨⟨by omega, by omega, q912.tr q20⟩, by (try dsimp only); omega⟩
  · rw [w64 (by omega) (by omega)]
    exact ⟨⟨by omega, by omega, q69.tr q10⟩, by (try dsimp only); omega⟩
theorem pairs (W : World) (s : Sl) (l : List Cp) (hr : Rd W cp 5 s l) (_ : ∀ ad, s.a = some ad → 0 < l.length → ad.block < W.heap.size) (hl : l.length ≤ maxLen) (_ : ∀ x ∈ l, okC x)
    (t : Sl) (m : List Cp) (hr' : Rd W cp 5 t m) (_ : ∀ ad, t.a = some ad → 0 < m.length → ad.block < W.heap.size) (hl' : m.length ≤ maxLen) (_ : ∀ x ∈ m, okC x) (near : Int) (_ : -9223372036854775808 ≤ near) (hn : near ≤ 9223372036854775807) :
    callC Try.prog 4 #[s.v, t.v, .int .i64 near] (fun (r : Bool) => .bool r) W fun r w' => r = true ∧ Below W.heap.size W w' :=
  (pairsL_c W s t l m near hr hr' hl hl' hn).use fun _ _ h => ⟨h.1, bq h.2⟩
end Go.Proofs.Ythnebjgmhdilbaa
