import Derived.Test.YtnoahloppffndaaXa
namespace Go.Proofs.Ytnoahloppffndaa
open Go.Dec Go.RowKit
set_option maxHeartbeats 800000
set_option maxRecDepth 10000

/-- the way of the first option that is permitted -/
def pickO : List Op → Wy
  | [] => ⟨5, 2⟩
  | x :: l => if x.may = true then ⟨x.how, x.finds⟩ else pickO l
def bestW (a : Ap) (c : Int) : Wy := pickO (optsP a c)
def bestL (a : Ap) : List Wy := (List.range 9).map fun (c : Nat) => bestW a (c : Int)
def opAgg (x : Op) : Value := .agg #[.int .i64 x.how, .int .i64 x.finds, .bool x.may]
theorem op_eqb (x y : Op) : ((decide (x.how = y.how) && (decide (x.finds = y.finds) && true)) && ((x.may == y.may) && true)) = decide (x = y) := by
  rw [Bool.eq_iff_iff, decide_eq_true_eq]
  cases x
  cases y
  simp [and_assoc]
theorem wy_eqb (x y : Wy) : (decide (x.how = y.how) && (decide (x.finds = y.finds) && true)) = decide (x = y) := by
  rw [Bool.eq_iff_iff, decide_eq_true_eq]
  cases x
  cases y
  simp
theorem lo_eqb (x y : Lo) : (decide (x.con = y.con) && (decide (x.how = y.how) && (decide (x.finds = y.finds) && true))) = decide (x = y) := by
  rw [Bool.eq_iff_iff, decide_eq_true_eq]
  cases x
  cases y
  simp
theorem ocontains_c (w : World) (s : Sl) (l : List Op) (x : Op) (h : Rd w op 3 s l) (hl : l.length ≤ 1000) : callC Try.prog 30 #[s.v, opv x] (fun (r : Bool) => .bool r) w fun r w' => r = decide (x ∈ l) ∧ Quiet w w' := by
  have hsl := h.len
  refine D30 _ _ _ _ w _ ?_
  unfold F30
  refine nwL fun b9 w1 hb q1 _ _ _ => ?_
  have A : AtC w1 (Addr.mk b9 0 none) (op x) := IsOp.at hb
  refine op_ld A ?_
  refine callC.use (R := fun r w' => decide (0 ≤ r) = decide (x ∈ l) ∧ Quiet w1 w') (D51 _ _ _ _ w1 _ ?_) fun r w' h => ⟨h.1, q1.tr h.2⟩
  unfold F51
  refine nwL fun b w2 hb q2 _ _ _ => ?_
  have A : ∀ w', Quiet w2 w' → AtC w' (Addr.mk b 0 none) (op x) := fun w' q => (IsOp.keepQ hb q).at
  have h2 := h.keepQ (q1.tr q2)
  refine ⟨fun i w' => 0 ≤ i ∧ i ≤ l.length ∧ x ∉ l.take i.toNat ∧ Quiet w2 w', fun i _ => (l.length - i).toNat, ⟨by omega, by omega, by simp, Only.refl _ _⟩, ?_⟩
  rintro i w3 ⟨i0, i1, hn, q3⟩
  refine ⟨fun hi => ?_, fun hi => ?_⟩
  · have hi : i < (s.len : Int) := of_decide_eq_true hi
    obtain ⟨y, hy⟩ := getq (l := l) i0 (by omega)
    refine jn_any' (W := w2) (decide (x = y)) ?_ fun w4 q4 => ⟨fun g => ?_, fun g => ?_⟩
    · show tk _ _
      unfold tk
      replace q3 := q3.tr (Only.drew (fun _ => False) _)
      exact op_ld (A _ q3) ((h2.keepQ q3).ixx i0 hy fun p hat _ => op_ld hat ⟨op_eqb x y, q3⟩)
    · have e := of_decide_eq_true g
      subst e
      exact ⟨by rw [decide_eq_true i0, decide_eq_true (List.mem_of_getElem? hy)], q2.tr q4⟩
    · have e := of_decide_eq_false g
      rw [w64 (by omega) (by omega)]
      refine ⟨⟨by omega, by omega, ?_, q4⟩, by (try dsimp only); omega⟩
      rw [toNat_succ i0, take_next hy]
      simp only [List.mem_append, List.mem_singleton, not_or]
      exact ⟨hn, e⟩
  · have hi : ¬ i < (s.len : Int) := of_decide_eq_false hi
    rw [List.take_of_length_le (by omega)] at hn
    exact ⟨by rw [decide_eq_false hn]; rfl, q2.tr q3⟩
/-- where the first permitted option stands -/
theorem pick_at : ∀ {l : List Op} {i : Nat} {x : Op}, l[i]? = some x → x.may = true → (∀ y ∈ l.take i, y.may = false) → pickO l = ⟨x.how, x.finds⟩
  | y :: l, 0, x, hx, hm, _ => by
    simp at hx
    subst hx
    rw [pickO, if_pos hm]
  | y :: l, i + 1, x, hx, hm, hn => by
    rw [pickO, if_neg (by rw [hn y (by simp)]; exact Bool.false_ne_true)]
    exact pick_at (by simpa using hx) hm fun z hz => hn z (by simp [hz])
  | [], _, _, hx, _, _ => by simp at hx
theorem oindex_c (w : World) (s : Sl) (l : List Op) (h : Rd w op 3 s l) (hl : l.length ≤ 1000) (hm : ∃ x ∈ l, x.may = true) : callC Try.prog 31 #[s.v, .func (.func 32) #[] #[]] (fun (r : Int) => .int .i64 r) w fun r w' => (∃ x, 0 ≤ r ∧ l[r.toNat]? = some x ∧ (⟨x.how, x.finds⟩ : Wy) = pickO l) ∧ Quiet w w' := by
  have hsl := h.len
  refine D31 _ _ w _ ?_
  unfold F31
  refine ⟨fun i w' => 0 ≤ i ∧ i ≤ l.length ∧ (∀ y ∈ l.take i.toNat, y.may = false) ∧ Quiet w w', fun i _ => (l.length - i).toNat, ⟨by omega, by omega, by simp, Only.refl _ _⟩, ?_⟩
  rintro i w1 ⟨i0, i1, hn, q1⟩
  refine ⟨fun hi => ?_, fun hi => ?_⟩
  · have hi : i < (s.len : Int) := of_decide_eq_true hi
    obtain ⟨x, hx⟩ := getq (l := l) i0 (by omega)
    refine (h.keepQ q1).ixx i0 hx fun p hat _ => op_ld hat (cv_mk (ca := []) (l := [opv x]) Try.func32 NN_32 NB_32 rfl ?_)
    refine D32 _ _ _ w1 _ ?_
    unfold F32
    refine nwL fun b w2 hb q2 _ _ _ => (IsOp.at (x := x) hb).ld (j := 2) rfl ⟨fun g => ⟨⟨x, i0, hx, (pick_at hx g hn).symm⟩, q1.tr q2⟩, fun g => ?_⟩
    rw [w64 (by omega) (by omega)]
    refine ⟨⟨by omega, by omega, ?_, q1.tr q2⟩, by (try dsimp only); omega⟩
    rw [toNat_succ i0, take_next hx]
    intro y hy
    rcases List.mem_append.1 hy with e | e
    · exact hn y e
    · rw [List.mem_singleton.1 e]
      exact g
  · have hi : ¬ i < (s.len : Int) := of_decide_eq_false hi
    rw [List.take_of_length_le (by omega)] at hn
    obtain ⟨x, hx, hx2⟩ := hm
    rw [hn x hx] at hx2
    cases hx2
theorem opts_last (a : Ap) (c : Int) : ∃ x ∈ optsP a c, x.may = true := by
  unfold optsP
  repeat' split
  all_goals simp
theorem opts_len (a : Ap) (c : Int) : (optsP a c).length ≤ 3 := by
  unfold optsP
  repeat' split
  all_goals simp
/-- two lists of losses against each other -/
theorem loEq_f (w : World) (s t : Sl) (l m : List Lo) (h : Rd w lo 3 s l) (h' : Rd w lo 3 t m) (hk : l.length ≤ 1000000) : F33 s t w fun r w' => r = decide (l = m) ∧ Quiet w w' := by
    have hsl := h.len
    have htl := h'.len
    unfold F33
    refine ⟨fun g => ⟨(decide_eq_false fun e => nd g (by rw [hsl, htl, e])).symm, Only.refl _ _⟩, fun g => ?_⟩
    have hlen := nt g
    refine ⟨fun i w' => 0 ≤ i ∧ i ≤ l.length ∧ l.take i.toNat = m.take i.toNat ∧ Quiet w w', fun i _ => (l.length - i).toNat, ⟨by omega, by omega, by simp, Only.refl _ _⟩, ?_⟩
    rintro i w1 ⟨i0, i1, hn, q⟩
    refine ⟨fun hi => ?_, fun hi => ?_⟩
    · have hi : i < (s.len : Int) := of_decide_eq_true hi
      obtain ⟨x, hx⟩ := getq (l := l) i0 (by omega)
      obtain ⟨y, hy⟩ := getq (l := m) i0 (by omega)
      refine jn_any' (W := w) (!decide (x = y)) ?_ fun w2 q2 => ?_
      · show tk _ _
        unfold tk
        replace q := q.tr (Only.drew (fun _ => False) _)
        exact (h.keepQ q).ixx i0 hx fun p hat _ => lo_ld hat ((h'.keepQ q).ixx i0 hy fun p hat _ => lo_ld hat ⟨by rw [lo_eqb], q⟩)
      refine ⟨fun g => ⟨(decide_eq_false fun e => nd g ?_).symm, q2⟩, fun g => ?_⟩
      · rw [e, hy] at hx
        injection hx with hx
        exact hx.symm
      · rw [w64 (by omega) (by omega)]
        refine ⟨⟨by omega, by omega, ?_, q2⟩, by (try dsimp only); omega⟩
        rw [toNat_succ i0, take_next hx, take_next hy, hn, nt g]
    · have hi : ¬ i < (s.len : Int) := of_decide_eq_false hi
      rw [List.take_of_length_le (by omega), List.take_of_length_le (by omega)] at hn
      exact ⟨(decide_eq_true hn).symm, q⟩
theorem loEq_c' (w : World) (s t : Sl) (l m : List Lo) (h : Rd w lo 3 s l) (h' : Rd w lo 3 t m) (hk : l.length ≤ 1000000) : callC Try.prog 33 #[s.v, t.v] (fun (r : Bool) => .bool r) w fun r w' => r = decide (l = m) ∧ Quiet w w' := D33 _ _ w _ (loEq_f w s t l m h h' hk)
theorem same_c (w : World) (s t : Sl) (l m : List Lo) (h : Rd w lo 3 s l) (h' : Rd w lo 3 t m) (hk : l.length ≤ 1000000) : callC Try.prog 12 #[s.v, t.v] (fun (r : Bool) => .bool r) w fun r w' => r = decide (l = m) ∧ Quiet w w' := D12 _ _ w _ (loEq_f w s t l m h h' hk)

/-! ### certificates -/
/-- the losses of a list of ways, from a construct on -/
def certF : List Wy → Nat → List Lo
  | [], _ => []
  | x :: l, n => if x.how = 0 then certF l (n + 1) else ⟨(n : Int), x.how, x.finds⟩ :: certF l (n + 1)
def certP (l : List Wy) : List Lo := certF l 0
theorem certF_app : ∀ (l m : List Wy) (n : Nat), certF (l ++ m) n = certF l n ++ certF m (n + l.length)
  | [], m, n => by simp [certF]
  | x :: l, m, n => by
    rw [List.cons_append, certF, certF, certF_app l m (n + 1), show n + 1 + l.length = n + (x :: l).length by simp; omega]
    split <;> simp
theorem certF_len : ∀ (l : List Wy) (n : Nat), (certF l n).length ≤ l.length
  | [], _ => Nat.le_refl _
  | x :: l, n => by
    have := certF_len l (n + 1)
    rw [certF]
    split <;> simp <;> omega
def CertA (a : Ap) (l : List Wy) : List Lo × Int := if CheckA a ≠ 0 then ([], 1) else if ¬ RightW l then ([], 2) else (certP l, 0)
theorem certify_c (w : World) (a : Ap) (s t : Sl) (l : List Wy) (h : Rd w cb 1 s a.types) (hs : s.len ≤ s.cap) (h' : Rd w wy 2 t l) :
    callC Try.prog 10 #[pfv (pfOf a s), t.v] (fun (r : Sl × Int) => .tuple #[Sl.v r.1, .int .i64 r.2]) w fun r w' => Rd w' lo 3 r.1 (CertA a l).1 ∧ r.1.len ≤ r.1.cap ∧ r.2 = (CertA a l).2 ∧ Quiet w w' := by
  have htl := h'.len
  refine D10 _ _ _ _ _ _ _ _ _ _ _ _ _ _ _ _ _ _ _ _ _ _ _ w _ ?_
  unfold F10
  refine nwL fun b9 w1 hb9 q1 _ _ _ => ?_
  have A : AtC w1 (Addr.mk b9 0 none) (pf (pfOf a s)) := IsPf.at hb9
  refine pf_ld A ((check_c w1 a s (h.keepQ q1) hs).use ?_)
  rintro _ w2 ⟨rfl, q2⟩
  replace q1 := q1.tr q2
  unfold CertA
  refine ⟨fun g => ?_, fun g => ?_⟩
  · rw [if_pos (nd g)]
    exact ⟨Rd.nil _ _ _, Nat.le_refl _, rfl, q1⟩
  rw [if_neg (fun c => c (nt g))]
  refine (right20_c w2 t l (h'.keepQ q1)).use ?_
  rintro _ w3 ⟨rfl, q3⟩
  replace q1 := q1.tr q3
  refine ⟨fun g => ?_, fun g => ?_⟩
  · rw [if_pos (nd g)]
    exact ⟨Rd.nil _ _ _, Nat.le_refl _, rfl, q1⟩
  have hR := nt g
  rw [if_neg (fun c => c hR)]
  have hl9 := hR.1
  refine ⟨fun (c : Sl × Int) w' => 0 ≤ c.2 ∧ c.2 ≤ l.length ∧ ∃ F, OwnF w' F 44 3 c.1 ((certF (l.take c.2.toNat) 0).flatMap lo) ∧ Fresh w w' F, fun c _ => (l.length - c.2).toNat, ⟨by simp, by simp, _, OwnF.nil _ _ _ _, (Fresh.none w).keep q1⟩, ?_⟩
  rintro ⟨out, i⟩ w4 ⟨i0, i1, F, ho, f⟩
  dsimp only at i0 i1 ho ⊢
  refine ⟨fun hi => ?_, fun hi => ?_⟩
  · have hi : i < (t.len : Int) := of_decide_eq_true hi
    obtain ⟨x, hx⟩ := getq (l := l) i0 (by omega)
    have hlen := certF_len (l.take i.toNat) 0
    rw [List.length_take] at hlen
    have hol := (ho.rd lo_len (by decide)).len
    have htk : certF (l.take (i.toNat + 1)) 0 = certF (l.take i.toNat) 0 ++ certF [x] i.toNat := by
      rw [take_next hx, certF_app, List.length_take, Nat.zero_add, show min i.toNat l.length = i.toNat by omega]
    refine jn.mk (fun r w' => ∃ F, OwnF w' F 44 3 r ((certF (l.take (i.toNat + 1)) 0).flatMap lo) ∧ Fresh w w' F) ?_ ?_
    · refine (h'.keepQ f.q).ixx i0 hx fun p hat _ => wy_ld hat (wy_box fun b43 w7 hb43 q7 _ _ => ?_)
      have B := hb43.at
      refine B.ld (j := 0) rfl ⟨fun g => ?_, fun g => ?_⟩
      · refine B.ld (j := 0) rfl (B.ld (j := 1) rfl ((ho.keepQ q7).push (news := lo ⟨i, x.how, x.finds⟩) ap26 rfl rfl (by unfold maxLen; omega) (by omega) fun r w' F' ho' _ st => ⟨F', ?_, (f.keep q7).stp st⟩))
        rw [htk, List.flatMap_append, certF, if_neg (nd g)]
        simpa [certF, Int.toNat_of_nonneg i0] using ho'
      · refine ⟨F, ?_, f.keep q7⟩
        rw [htk, certF, if_pos (nt g)]
        simpa [certF] using ho.keepQ q7
    · rintro r w5 ⟨F', ho', f'⟩
      rw [w64 (by omega) (by omega)]
      refine ⟨⟨by (try dsimp only); omega, by (try dsimp only); omega, F', ?_, f'⟩, by (try dsimp only); omega⟩
      rw [toNat_succ i0]
      exact ho'
  · have hi : ¬ i < (t.len : Int) := of_decide_eq_false hi
    rw [List.take_of_length_le (by omega)] at ho
    exact ⟨ho.rd lo_len (by decide), ho.cap, rfl, f.q⟩

/-! ### checking -/
def allIn (a : Ap) (l : List Wy) : Prop := ∀ (c : Nat) (x : Wy), l[c]? = some x → (⟨x.how, x.finds, true⟩ : Op) ∈ optsP a (c : Int)
/-- what Check says of ways and losses -/
def ChkR (a : Ap) (l : List Wy) (m : List Lo) (r : Int) : Prop :=
  (CertA a l).2 ≠ 0 ∧ r = (CertA a l).2 ∨ (CertA a l).2 = 0 ∧ (¬ allIn a l ∧ r = 7 ∨ allIn a l ∧ ((l = bestL a ∧ certP l = m ∧ r = 0) ∨ (¬ (l = bestL a ∧ certP l = m) ∧ r = 18)))
theorem bestL_at (a : Ap) {c : Nat} (h : c < 9) : (bestL a)[c]? = some (bestW a c) := by
  unfold bestL
  simp [h]
theorem bestL_len (a : Ap) : (bestL a).length = 9 := by simp [bestL]
theorem cert_ok {a : Ap} {l : List Wy} (h : (CertA a l).2 = 0) : CheckA a = 0 ∧ RightW l ∧ (CertA a l).1 = certP l := by
  unfold CertA at h ⊢
  split at h
  · cases h
  · split at h
    · cases h
    · rename_i h1 h2
      rw [if_neg h1, if_neg h2]
      exact ⟨Classical.byContradiction h1, Classical.byContradiction h2, rfl⟩
theorem losscheck_c (w : World) (a : Ap) (s t u : Sl) (l : List Wy) (m : List Lo) (h : Rd w cb 1 s a.types) (hs : s.len ≤ s.cap) (h' : Rd w wy 2 t l) (hu : Rd w lo 3 u m) :
    callC Try.prog 13 #[pfv (pfOf a s), t.v, u.v] (fun (r : Int) => .int .i64 r) w fun r w' => ChkR a l m r ∧ Quiet w w' := by
  have htl := h'.len
  refine D13 _ _ _ _ _ _ _ _ _ _ _ _ _ _ _ _ _ _ _ _ _ _ _ _ w _ ?_
  unfold F13
  refine nwL fun b9 w1 hb9 q1 _ _ _ => ?_
  have A : ∀ w', Quiet w1 w' → AtC w' (Addr.mk b9 0 none) (pf (pfOf a s)) := fun w' q => (IsPf.keepQ hb9 q).at
  refine pf_ld (A _ (Only.refl _ _)) ((certify_c w1 a s t l (h.keepQ q1) hs (h'.keepQ q1)).use ?_)
  rintro ⟨r, e⟩ w2 ⟨hr, _, he, q2⟩
  dsimp only at hr he ⊢
  subst he
  refine ⟨fun g => ⟨.inl ⟨nd g, rfl⟩, q1.tr q2⟩, fun g => ?_⟩
  have g0 := nt g
  obtain ⟨hC, hR, hcert⟩ := cert_ok g0
  rw [hcert] at hr
  have hl9 := hR.1
  have hA : ∀ w', Quiet w2 w' → AtC w' (Addr.mk b9 0 none) (pf (pfOf a s)) := fun w' q => A w' (q2.tr q)
  have q12 := q1.tr q2
  refine ⟨fun (c : Bool × Int) w' => 0 ≤ c.2 ∧ c.2 ≤ l.length ∧ (∀ k x, k < c.2.toNat → l[k]? = some x → (⟨x.how, x.finds, true⟩ : Op) ∈ optsP a (k : Int)) ∧ (c.1 = true ↔ l.take c.2.toNat = (bestL a).take c.2.toNat) ∧ Quiet w2 w', fun c _ => (l.length - c.2).toNat, ⟨by simp, by simp, fun k _ hk => absurd hk (by simp), by simp, Only.refl _ _⟩, ?_⟩
  rintro ⟨b, i⟩ w3 ⟨i0, i1, hin, hb, q3⟩
  dsimp only at i0 i1 hin hb ⊢
  refine ⟨fun hi => ?_, fun hi => ?_⟩
  · have hi : i < (t.len : Int) := of_decide_eq_true hi
    obtain ⟨x, hx⟩ := getq (l := l) i0 (by omega)
    have hi9 : i.toNat < 9 := by omega
    have hic : ((i.toNat : Nat) : Int) = i := Int.toNat_of_nonneg i0
    refine (h'.keepQ (q12.tr q3)).ixx i0 hx fun p hat _ => wy_ld hat (wy_box fun b39 w5 hb39 q5 _ _ => ?_)
    replace q3 := q3.tr q5
    refine pf_ld (hA _ q3) ((options_c w5 a s i).use ?_)
    rintro r63 w6 ⟨h63, q6, _⟩
    replace q3 := q3.tr q6
    have B := (hb39.keepQ q6).at
    refine wy_ld B ((ocontains_c w6 r63 (optsP a i) ⟨x.how, x.finds, true⟩ h63 (by have := opts_len a i; omega)).use ?_)
    rintro _ w7 ⟨rfl, q7⟩
    replace q3 := q3.tr q7
    refine ⟨fun g => ⟨.inr ⟨g0, .inl ⟨fun hall => nd g ?_, rfl⟩⟩, q12.tr q3⟩, fun g => ?_⟩
    · have := hall i.toNat x hx
      rwa [hic] at this
    have hmem := nt g
    refine (oindex_c w7 r63 (optsP a i) (h63.keepQ q7) (by have := opts_len a i; omega) (opts_last a i)).use ?_
    rintro r68 w8 ⟨⟨y, r0, hy, hp⟩, q8⟩
    replace q3 := q3.tr q8
    have hbw : (bestL a)[i.toNat]? = some (bestW a i) := by
      rw [bestL_at a hi9, hic]
    refine jn_any' (W := w2) (b && decide (bestW a i = x)) ?_ fun w10 q10 => ?_
    · show tk _ _
      unfold tk
      have qd : Quiet w8 w8.drew := Only.drew _ _
      replace q3 := q3.tr qd
      have B := ((hb39.keepQ q6).keepQ ((q7.tr q8).tr qd)).at
      refine ⟨fun e => ?_, fun e => ⟨by rw [e]; rfl, q3⟩⟩
      refine (h63.keepQ ((q7.tr q8).tr qd)).ixx r0 hy fun p hat _ => AtC.ld2 (j := 0) (k := 0) hat rfl (AtC.ld2 (j := 0) (k := 1) hat rfl (B.ld (j := 0) rfl (B.ld (j := 1) rfl ⟨?_, q3⟩)))
      rw [e, Bool.true_and, bestW, ← hp]
      exact wy_eqb ⟨y.how, y.finds⟩ x
    rw [w64 (by omega) (by omega)]
    refine ⟨⟨by (try dsimp only); omega, by (try dsimp only); omega, ?_, ?_, q10⟩, by (try dsimp only); omega⟩
    · rw [toNat_succ i0]
      intro k z hk hz
      by_cases e : k < i.toNat
      · exact hin k z e hz
      · have : k = i.toNat := by omega
        subst this
        rw [hx] at hz
        injection hz with hz
        subst hz
        rw [hic]
        exact hmem
    · rw [toNat_succ i0, take_next hx, take_next hbw, Bool.and_eq_true, decide_eq_true_eq, hb]
      constructor
      · rintro ⟨h1, h2⟩
        rw [h1, h2]
      · intro h
        have := List.append_inj' h rfl
        exact ⟨this.1, (List.singleton_inj.1 this.2).symm⟩
  · have hi : ¬ i < (t.len : Int) := of_decide_eq_false hi
    rw [List.take_of_length_le (by omega), List.take_of_length_le (by rw [bestL_len]; omega)] at hb
    have hall : allIn a l := fun c x hx => hin c x (by have := (List.getElem?_eq_some_iff.1 hx).1; omega) hx
    have hcl := certF_len l 0
    refine jn_orW (W := w2) (v := !decide (certP l = m)) q3 (fun _ => ?_) fun w12 q12' => ⟨fun g => ?_, fun g => ?_⟩
    · refine (loEq_c' w3 r u (certP l) m (hr.keepQ q3) (hu.keepQ (q12.tr q3)) (by unfold certP; omega)).use ?_
      rintro _ w11 ⟨rfl, q11⟩
      exact ⟨rfl, q3.tr q11⟩
    · refine ⟨.inr ⟨g0, .inr ⟨hall, .inr ⟨fun c => ?_, rfl⟩⟩⟩, q12.tr q12'⟩
      rw [hb.2 c.1, decide_eq_true c.2] at g
      cases g
    · rw [Bool.or_eq_false_iff, Bool.not_eq_false', Bool.not_eq_false', decide_eq_true_eq, hb] at g
      exact ⟨.inr ⟨g0, .inr ⟨hall, .inl ⟨g.1, g.2, rfl⟩⟩⟩, q12.tr q12'⟩
end Go.Proofs.Ytnoahloppffndaa
