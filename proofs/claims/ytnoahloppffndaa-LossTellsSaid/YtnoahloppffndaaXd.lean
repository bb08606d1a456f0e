import Derived.Test.YtnoahloppffndaaXc
namespace Go.Proofs.Ytnoahloppffndaa
open Go.Dec Go.RowKit
set_option maxHeartbeats 1600000
set_option maxRecDepth 10000

theorem certified_c (w : World) (a : Ap) (s : Sl) (h : Rd w cb 1 s a.types) (hs : s.len ≤ s.cap) :
    callC Try.prog 20 #[pfv (pfOf a s)] (fun (r : Sl × Bool) => .tuple #[Sl.v r.1, .bool r.2]) w fun r w' => r.2 = decide (CheckA a = 0) ∧ (CheckA a = 0 → Rd w' lo 3 r.1 (certP (bestL a))) ∧ (CheckA a ≠ 0 → r.1 = Sl.nil) ∧ Quiet w w' := by
  refine D20 _ _ _ _ _ _ _ _ _ _ _ _ _ _ _ _ _ _ _ _ _ _ w _ ?_
  unfold F20
  refine nwL fun b9 w1 hb9 q1 _ _ _ => ?_
  have hb9 : IsPf w1 b9 (pfOf a s) := hb9
  refine pf_ld hb9.at ((compile_c w1 a s (h.keepQ q1) hs).use ?_)
  rintro ⟨r, e⟩ w2 ⟨he, h1, h2, q2⟩
  dsimp only at he h1 h2 ⊢
  subst he
  refine ⟨fun g => ⟨(decide_eq_false (nd g)).symm, fun e => absurd e (nd g), fun _ => rfl, q1.tr q2⟩, fun g => ?_⟩
  have hC := nt g
  obtain ⟨F, o, f⟩ := h2 hC
  refine pf_ld (hb9.keepQ q2).at ((certify_c w2 a s r (bestL a) (h.keepQ (q1.tr q2)) hs (o.rd wy_len (by decide))).use ?_)
  rintro ⟨r3, e3⟩ w3 ⟨h3, _, he3, q3⟩
  dsimp only at h3 he3 ⊢
  rw [cert_best hC] at h3 he3
  subst he3
  exact ⟨by rw [decide_eq_true hC]; rfl, fun _ => h3, fun e => absurd hC e, (q1.tr q2).tr q3⟩

/-! ### ranks -/
def ap0 : Ap := { name := ByteArray.mk #[], edit := 0, within := 0, delete := 0, react := false, thread := 0, quote := false, mention := false, size := 0, parts := 0, files := 0, bytes := 0, types := [], join := 0, history := 0, remove := 0, level := 0, batch := false, rate := 0, down := 0, window := 0, keep := 0 }
def rkF : List Op → Int → Wy → Int → Int
  | [], _, _, r => r
  | o :: l, n, x, r => if o.how = 0 then rkF l n x r else if o.how = x.how ∧ o.finds = x.finds then rkF l (n + 1) x (n + 1) else rkF l (n + 1) x r
def rankOf (x : Lo) : Int := rkF (optsP ap0 x.con) 0 ⟨x.how, x.finds⟩ 0
def CertOK (l : List Lo) : Prop := (∀ x ∈ l, 0 ≤ x.con ∧ x.con < 9 ∧ rankOf x ≠ 0) ∧ l.Pairwise (fun x y => x.con < y.con)
instance (l : List Lo) : Decidable (CertOK l) := by unfold CertOK; infer_instance
def ofL (l : List Lo) (c : Int) : Int := match l.find? (fun x => decide (x.con = c)) with
  | some x => rankOf x
  | none => 0
def rankL (l : List Lo) : List Int := (List.range 9).map fun (c : Nat) => ofL l (c : Int)
theorem rankL_len (l : List Lo) : (rankL l).length = 9 := by simp [rankL]
theorem rankL_at (l : List Lo) {c : Nat} (h : c < 9) : (rankL l)[c]? = some (ofL l c) := by
  unfold rankL
  simp [h]
theorem rkF_ge : ∀ (l : List Op) (n : Int) (x : Wy) (r : Int), 0 ≤ n → 0 ≤ r → 0 ≤ rkF l n x r
  | [], _, _, _, _, hr => hr
  | o :: l, n, x, r, hn, hr => by
    rw [rkF]
    split
    · exact rkF_ge l n x r hn hr
    · split
      · exact rkF_ge l _ x _ (by omega) (by omega)
      · exact rkF_ge l _ x r (by omega) hr
theorem rankOf_ge (x : Lo) : 0 ≤ rankOf x := rkF_ge _ _ _ _ (Int.le_refl _) (Int.le_refl _)
theorem ofL_none {l : List Lo} {c : Int} (h : ∀ x ∈ l, x.con ≠ c) : ofL l c = 0 := by
  unfold ofL
  rw [List.find?_eq_none.2 fun x hx => by simp [h x hx]]
theorem ofL_snoc (l : List Lo) (x : Lo) (c : Int) (h : ∀ y ∈ l, y.con ≠ x.con) : ofL (l ++ [x]) c = if c = x.con then rankOf x else ofL l c := by
  unfold ofL
  rw [List.find?_append]
  by_cases e : c = x.con
  · subst e
    rw [if_pos rfl, List.find?_eq_none.2 fun y hy => by simp [h y hy]]
    simp
  · rw [if_neg e]
    have : List.find? (fun y => decide (y.con = c)) [x] = none := by simp [Ne.symm e]
    rw [this]
    simp
theorem rankL_snoc (l : List Lo) (x : Lo) (h : ∀ y ∈ l, y.con ≠ x.con) (h0 : 0 ≤ x.con) : rankL (l ++ [x]) = (rankL l).set x.con.toNat (rankOf x) := by
  apply List.ext_getElem?
  intro c
  by_cases hc : c < 9
  · rw [rankL_at _ hc, ofL_snoc _ _ _ h, List.getElem?_set]
    by_cases e : (c : Int) = x.con
    · rw [if_pos e, if_pos (by omega), if_pos (by rw [rankL_len]; omega)]
    · rw [if_neg e, if_neg (by omega), rankL_at _ hc]
  · rw [List.getElem?_eq_none (by rw [rankL_len]; omega), List.getElem?_eq_none (by rw [List.length_set, rankL_len]; omega)]
theorem CertOK.pre {l m : List Lo} (h : CertOK (l ++ m)) : CertOK l := ⟨fun x hx => h.1 x (List.mem_append_left _ hx), (List.pairwise_append.1 h.2).1⟩
theorem CertOK.snoc {l : List Lo} {x : Lo} : CertOK (l ++ [x]) ↔ CertOK l ∧ (0 ≤ x.con ∧ x.con < 9 ∧ rankOf x ≠ 0) ∧ ∀ y ∈ l, y.con < x.con := by
  constructor
  · intro h
    exact ⟨h.pre, h.1 x (by simp), fun y hy => (List.pairwise_append.1 h.2).2.2 y hy x (by simp)⟩
  · rintro ⟨h1, h2, h3⟩
    refine ⟨fun y hy => ?_, List.pairwise_append.2 ⟨h1.2, by simp, fun y hy z hz => by rw [List.mem_singleton.1 hz]; exact h3 y hy⟩⟩
    rcases List.mem_append.1 hy with e | e
    · exact h1.1 y e
    · rw [List.mem_singleton.1 e]
      exact h2
theorem take_pre {l : List Lo} {i : Nat} {x : Lo} (hx : l[i]? = some x) (h : CertOK l) : CertOK (l.take i ++ [x]) := by
  rw [← take_next hx]
  have : l = l.take (i + 1) ++ l.drop (i + 1) := (List.take_append_drop _ _).symm
  rw [this] at h
  exact h.pre
theorem ranks_c (w : World) (s : Sl) (l : List Lo) (h : Rd w lo 3 s l) (hl : l.length ≤ 1000) :
    callC Try.prog 36 #[s.v] (fun (r : Sl × Bool) => .tuple #[Sl.v r.1, .bool r.2]) w fun r w' => r.2 = decide (CertOK l) ∧ (CertOK l → Rd w' ci 1 r.1 (rankL l)) ∧ Quiet w w' := by
  have hsl := h.len
  refine D36 _ w _ ?_
  unfold F36
  refine rn_make1 (n := 9) ap63 zv3 rfl (by decide) (by decide) fun r9 w1 F o hr9 f => ?_
  have o : OwnF w1 F 3 1 r9 ((rankL []).flatMap ci) := o
  refine ⟨fun (c : Int × Int) w' => 0 ≤ c.2 ∧ c.2 ≤ l.length ∧ CertOK (l.take c.2.toNat) ∧ (∀ x ∈ l.take c.2.toNat, x.con ≤ c.1) ∧ (c.1 = -1 ∨ ∃ x ∈ l.take c.2.toNat, x.con = c.1) ∧ OwnF w' F 3 1 r9 ((rankL (l.take c.2.toNat)).flatMap ci) ∧ Fresh w w' F, fun c _ => (l.length - c.2).toNat,
    ⟨by simp, by simp, ⟨by simp, by simp⟩, by simp, .inl rfl, by simpa using o, f⟩, ?_⟩
  rintro ⟨last, i⟩ w2 ⟨i0, i1, hC, hlast, hex, o, f⟩
  dsimp only at i0 i1 hC hlast hex o ⊢
  refine ⟨fun hi => ?_, fun hi => ?_⟩
  rotate_left
  · have hi : ¬ i < (s.len : Int) := of_decide_eq_false hi
    rw [List.take_of_length_le (by omega)] at hC o
    exact ⟨(decide_eq_true hC).symm, fun _ => o.rd ci1 (by decide), f.q⟩
  have hi : i < (s.len : Int) := of_decide_eq_true hi
  obtain ⟨x, hx⟩ := getq (l := l) i0 (by omega)
  have hno : (x.con ≤ last ∨ 9 ≤ x.con ∨ rankOf x = 0) → ¬ CertOK l := fun hb hc => by
    obtain ⟨_, ⟨k1, k2, k3⟩, k4⟩ := CertOK.snoc.1 (take_pre hx hc)
    rcases hb with hb | hb | hb
    · rcases hex with e | ⟨y, hy, e⟩
      · omega
      · have := k4 y hy
        omega
    · omega
    · exact k3 hb
  have hl1 : -1 ≤ last := by
    rcases hex with e | ⟨y, hy, e⟩
    · omega
    · have := (hC.1 y hy).1
      omega
  refine (h.keepQ f.q).ixx i0 hx fun p hat _ => lo_ld hat (lo_box fun b16 w4 hb16 q4 g16 _ => ?_)
  have f4 := f.keep q4
  have nF : ¬ F b16 := fun e => by
    have := (f.b b16 e).2
    omega
  have A := hb16.at
  refine A.ld (j := 0) rfl (jp_or (v := decide (9 ≤ x.con)) (fun _ J hJ => A.ld (j := 0) rfl hJ) ⟨fun g => ?_, fun g => ?_⟩)
  · rw [Bool.or_eq_true, decide_eq_true_eq, decide_eq_true_eq] at g
    exact ⟨(decide_eq_false (hno (by rcases g with g | g <;> simp [g]))).symm, fun e => absurd e (hno (by rcases g with g | g <;> simp [g])), f4.q⟩
  rw [Bool.or_eq_false_iff, decide_eq_false_iff_not, decide_eq_false_iff_not] at g
  have hk : x.con.toNat < 9 := by omega
  have hk0 : 0 ≤ x.con := by omega
  have hnp : ∀ y ∈ l.take i.toNat, y.con ≠ x.con := fun y hy e => by
    have := hlast y hy
    omega
  refine A.ld (j := 0) rfl (A.ld (j := 0) rfl ((options_c w4 ap0 Sl.nil x.con).use ?_))
  rintro r26 w5 ⟨h26, q5, hn26⟩
  have h26l := h26.len
  have hol := opts_len ap0 x.con
  have f5 := f4.keep q5
  have B5 := hb16.keepQ q5
  have o5 := o.keepQ (q4.tr q5)
  have hset0 : (rankL (l.take i.toNat)).set x.con.toNat 0 = rankL (l.take i.toNat) := by
    have := rankL_at (l.take i.toNat) hk
    rw [show ((x.con.toNat : Nat) : Int) = x.con by omega, ofL_none hnp] at this
    obtain ⟨h1, h2⟩ := List.getElem?_eq_some_iff.1 this
    conv => lhs; rw [← h2]
    exact List.set_getElem_self h1
  refine ⟨fun (c : Int × Int) w' => 0 ≤ c.2 ∧ c.2 ≤ (optsP ap0 x.con).length ∧ 0 ≤ c.1 ∧ c.1 ≤ c.2 ∧ ∃ cur, OwnF w' F 3 1 r9 (((rankL (l.take i.toNat)).set x.con.toNat cur).flatMap ci) ∧ Fresh w w' F ∧ Only F w5 w' ∧ rankOf x = rkF ((optsP ap0 x.con).drop c.2.toNat) c.1 ⟨x.how, x.finds⟩ cur, fun c _ => ((optsP ap0 x.con).length - c.2).toNat,
    ⟨by simp, by simp, by simp, by simp, 0, by rw [hset0]; exact o5, f5, Only.refl _ _, rfl⟩, ?_⟩
  rintro ⟨rk, j⟩ w6 ⟨j0, j1, r0, r1, cur, oc, fc, on, hrk⟩
  dsimp only at j0 j1 r0 r1 hrk ⊢
  have B6 : IsLo w6 b16 x := Blk.keep B5 on nF
  have h6 : Rd w6 op 3 r26 (optsP ap0 x.con) := h26.keep on fun ad e _ hF => by
    have := hn26 ad e
    have := (f4.b _ hF).2
    omega
  refine ⟨fun hj => ?_, fun hj => ?_⟩
  · have hj : j < (r26.len : Int) := of_decide_eq_true hj
    obtain ⟨y, hy⟩ := getq (l := optsP ap0 x.con) j0 (by omega)
    have hdr : (optsP ap0 x.con).drop j.toNat = y :: (optsP ap0 x.con).drop (j.toNat + 1) := by
      obtain ⟨hjl, e⟩ := List.getElem?_eq_some_iff.1 hy
      rw [List.drop_eq_getElem_cons hjl, e]
    rw [hdr, rkF] at hrk
    refine jn.mk (fun r w' => 0 ≤ r ∧ r ≤ j + 1 ∧ ∃ cur, OwnF w' F 3 1 r9 (((rankL (l.take i.toNat)).set x.con.toNat cur).flatMap ci) ∧ Fresh w w' F ∧ Only F w5 w' ∧ rankOf x = rkF ((optsP ap0 x.con).drop (j.toNat + 1)) r ⟨x.how, x.finds⟩ cur) ?_ ?_
    rotate_left
    · rintro r w' ⟨a1, a2, cur', a3, a4, a5, a6⟩
      rw [w64 (by omega) (by omega)]
      refine ⟨⟨by (try dsimp only); omega, by (try dsimp only); omega, a1, a2, cur', a3, a4, a5, ?_⟩, by (try dsimp only); omega⟩
      rw [toNat_succ j0]
      exact a6
    refine h6.ixx j0 hy fun p hat _ => op_ld hat (op_box fun b35 w9 hb35 q9 _ _ => ?_)
    have Y := hb35.at
    have o9 := oc.keepQ q9
    have f9 := fc.keep q9
    have on9 := on.then_ q9 fun _ _ e => e.elim
    have B9 := (B6.keepQ q9).at
    refine AtC.ld2 (j := 0) (k := 0) Y rfl ⟨fun g => ?_, fun g => ?_⟩
    · rw [if_pos (of_decide_eq_true g)] at hrk
      exact ⟨r0, by omega, cur, o9, f9, on9, hrk⟩
    · rw [if_neg (of_decide_eq_false g)] at hrk
      refine AtC.ld2 (j := 0) (k := 0) Y rfl (AtC.ld2 (j := 0) (k := 1) Y rfl (B9.ld (j := 1) rfl (B9.ld (j := 2) rfl ⟨fun g => ?_, fun g => ?_⟩)))
      · have g' : y.how = x.how ∧ y.finds = x.finds := by
          simp only [Bool.and_eq_true, decide_eq_true_eq] at g
          exact ⟨g.1, g.2.1⟩
        rw [if_pos g'] at hrk
        rw [w64 (by omega) (by omega)]
        refine B9.ld (j := 0) rfl (o9.put (i := x.con) (y := rk + 1) ci1 hk0 (by rw [List.length_set, rankL_len]; omega) (by decide) fun w10 o10 on10 _ => ⟨by omega, by omega, rk + 1, ?_, f9.only on10, on9.then_ on10 fun _ _ e => e, hrk⟩)
        rwa [List.set_set] at o10
      · have g' : ¬ (y.how = x.how ∧ y.finds = x.finds) := fun c => by
          rw [Bool.eq_false_iff] at g
          exact g (by simp [c.1, c.2])
        rw [if_neg g'] at hrk
        rw [w64 (by omega) (by omega)]
        exact ⟨by omega, by omega, cur, o9, f9, on9, hrk⟩
  · have hj : ¬ j < (r26.len : Int) := of_decide_eq_false hj
    rw [List.drop_of_length_le (by omega), rkF] at hrk
    rw [← hrk] at oc
    have hat : ((rankL (l.take i.toNat)).set x.con.toNat (rankOf x))[x.con.toNat]? = some (rankOf x) := List.getElem?_set_self (by rw [rankL_len]; exact hk)
    refine B6.at.ld (j := 0) rfl ((oc.rd ci1 (by decide)).ixx hk0 hat fun p hat _ => hat.ld0 rfl ⟨fun g => ?_, fun g => ?_⟩)
    · have g := of_decide_eq_true g
      exact ⟨(decide_eq_false (hno (.inr (.inr g)))).symm, fun e => absurd e (hno (.inr (.inr g))), fc.q⟩
    · have g' := of_decide_eq_false g
      have htk := take_next hx
      rw [w64 (by omega) (by omega)]
      refine ⟨⟨by (try dsimp only); omega, by (try dsimp only); omega, ?_, ?_, ?_, ?_, fc⟩, by (try dsimp only); omega⟩
      · rw [toNat_succ i0, htk]
        exact CertOK.snoc.2 ⟨hC, ⟨hk0, by omega, g'⟩, fun y hy => by have := hlast y hy; omega⟩
      · rw [toNat_succ i0, htk]
        intro y hy
        rcases List.mem_append.1 hy with e | e
        · have := hlast y e
          (try dsimp only)
          omega
        · rw [List.mem_singleton.1 e]
          exact Int.le_refl _
      · rw [toNat_succ i0, htk]
        exact .inr ⟨x, by simp, rfl⟩
      · rw [toNat_succ i0, htk, rankL_snoc _ _ hnp hk0]
        exact oc

/-! ### worse -/
def WorseP (l m : List Lo) : Prop := CertOK l ∧ CertOK m ∧ (∀ c ∈ List.range 9, ofL m (c : Int) ≤ ofL l (c : Int)) ∧ ∃ c ∈ List.range 9, ofL m (c : Int) < ofL l (c : Int)
instance (l m : List Lo) : Decidable (WorseP l m) := by unfold WorseP; infer_instance
theorem worse_c (w : World) (s t : Sl) (l m : List Lo) (h : Rd w lo 3 s l) (h' : Rd w lo 3 t m) (hl : l.length ≤ 1000) (hl' : m.length ≤ 1000) :
    callC Try.prog 15 #[s.v, t.v] (fun (r : Bool) => .bool r) w fun r w' => r = decide (WorseP l m) ∧ Quiet w w' := by
  refine D15 _ _ w _ ?_
  unfold F15
  refine (ranks_c w s l h hl).use ?_
  rintro ⟨r9, e9⟩ w1 ⟨h1, hr1, q1⟩
  refine (ranks_c w1 t m (h'.keepQ q1) hl').use ?_
  rintro ⟨r10, e10⟩ w2 ⟨h2, hr2, q2⟩
  dsimp only at h1 hr1 h2 hr2 ⊢
  subst h1 h2
  have q := q1.tr q2
  refine ⟨fun g => ⟨(decide_eq_false fun c => ?_).symm, q⟩, fun g => ?_⟩
  · rw [decide_eq_true c.1, decide_eq_true c.2.1] at g
    cases g
  rw [Bool.or_eq_false_iff, Bool.not_eq_false', Bool.not_eq_false', decide_eq_true_eq, decide_eq_true_eq] at g
  have ha := (hr1 g.1).keepQ q2
  have hb := hr2 g.2
  have hal := ha.len
  rw [rankL_len] at hal
  refine ⟨fun (c : Bool × Int) w' => 0 ≤ c.2 ∧ c.2 ≤ 9 ∧ (∀ k : Nat, k < c.2.toNat → ofL m (k : Int) ≤ ofL l (k : Int)) ∧ (c.1 = true ↔ ∃ k : Nat, k < c.2.toNat ∧ ofL m (k : Int) < ofL l (k : Int)) ∧ Quiet w2 w', fun c _ => (9 - c.2).toNat, ⟨by simp, by simp, fun k hk => absurd hk (by simp), by simp, Only.refl _ _⟩, ?_⟩
  rintro ⟨b, i⟩ w3 ⟨i0, i1, hle, hb', q3⟩
  dsimp only at i0 i1 hle hb' ⊢
  refine ⟨fun hi => ?_, fun hi => ?_⟩
  · have hi : i < (r9.len : Int) := of_decide_eq_true hi
    have hi9 : i.toNat < 9 := by omega
    have xa := rankL_at l hi9
    have xb := rankL_at m hi9
    refine jn_any' (W := w2) (decide (ofL l (i.toNat : Int) < ofL m (i.toNat : Int))) ?_ fun w5 q5 => ⟨fun g' => ?_, fun g' => ?_⟩
    · show tk _ _
      unfold tk
      replace q3 := q3.tr (Only.drew (fun _ => False) _)
      exact (ha.keepQ q3).ixx i0 xa fun p hat _ => hat.ld0 rfl ((hb.keepQ q3).ixx i0 xb fun p hat _ => hat.ld0 rfl ⟨rfl, q3⟩)
    · refine ⟨(decide_eq_false fun c => ?_).symm, q.tr q5⟩
      have := c.2.2.1 i.toNat (List.mem_range.2 hi9)
      have := of_decide_eq_true g'
      omega
    · have g' := of_decide_eq_false g'
      refine jn_any' (W := w2) (b || decide (ofL m (i.toNat : Int) < ofL l (i.toNat : Int))) ?_ fun w7 q7 => ?_
      · show tk _ _
        unfold tk
        replace q5 := q5.tr (Only.drew (fun _ => False) _)
        refine ⟨fun e => ⟨by rw [e]; rfl, q5⟩, fun e => ?_⟩
        rw [e]
        exact (ha.keepQ q5).ixx i0 xa fun p hat _ => hat.ld0 rfl ((hb.keepQ q5).ixx i0 xb fun p hat _ => hat.ld0 rfl ⟨rfl, q5⟩)
      rw [w64 (by omega) (by omega)]
      refine ⟨⟨by (try dsimp only); omega, by (try dsimp only); omega, ?_, ?_, q7⟩, by (try dsimp only); omega⟩
      · rw [toNat_succ i0]
        intro k hk
        by_cases e : k < i.toNat
        · exact hle k e
        · have : k = i.toNat := by omega
          subst this
          omega
      · rw [toNat_succ i0, Bool.or_eq_true, decide_eq_true_eq, hb']
        constructor
        · rintro (⟨k, h1, h2⟩ | h)
          · exact ⟨k, by omega, h2⟩
          · exact ⟨i.toNat, by omega, h⟩
        · rintro ⟨k, h1, h2⟩
          by_cases e : k < i.toNat
          · exact .inl ⟨k, e, h2⟩
          · have : k = i.toNat := by omega
            subst this
            exact .inr h2
  · have hi : ¬ i < (r9.len : Int) := of_decide_eq_false hi
    refine ⟨?_, q.tr q3⟩
    rw [Bool.eq_iff_iff, hb', decide_eq_true_eq]
    constructor
    · rintro ⟨k, h1, h2⟩
      exact ⟨g.1, g.2, fun c hc => hle c (by rw [List.mem_range] at hc; omega), k, List.mem_range.2 (by omega), h2⟩
    · rintro ⟨_, _, _, k, h1, h2⟩
      exact ⟨k, by rw [List.mem_range] at h1; omega, h2⟩
theorem WorseP.irrefl (l : List Lo) : ¬ WorseP l l := fun ⟨_, _, _, _, _, h⟩ => by omega
theorem WorseP.trans {a b c : List Lo} (h : WorseP a b) (k : WorseP b c) : WorseP a c := by
  obtain ⟨h1, h2, h3, i, hi, h4⟩ := h
  obtain ⟨k1, k2, k3, _⟩ := k
  exact ⟨h1, k2, fun x hx => Int.le_trans (k3 x hx) (h3 x hx), i, hi, by have := k3 i hi; omega⟩
theorem WorseP.asymm {a b : List Lo} (h : WorseP a b) : ¬ WorseP b a := fun k => WorseP.irrefl a (h.trans k)
theorem ofL_nil (c : Int) : ofL [] c = 0 := rfl
theorem ofL_ge (l : List Lo) (c : Int) : 0 ≤ ofL l c := by
  unfold ofL
  split
  · exact rankOf_ge _
  · exact Int.le_refl _
theorem WorseP.nil {a : List Lo} : ¬ WorseP [] a := fun ⟨_, _, _, i, _, h⟩ => by
  have := ofL_ge a i
  rw [ofL_nil] at h
  omega
theorem WorseP.of_nil {a b : List Lo} (h : WorseP a b) : a ≠ [] ∧ WorseP a [] := by
  obtain ⟨h1, h2, h3, i, hi, h4⟩ := h
  have hb := ofL_ge b i
  refine ⟨fun e => ?_, h1, ⟨by simp, by simp⟩, fun c _ => ofL_ge a c, i, hi, ?_⟩
  · rw [e, ofL_nil] at h4
    omega
  · rw [ofL_nil]
    omega
theorem atLeast_c (w : World) (s t : Sl) (l m : List Lo) (h : Rd w lo 3 s l) (h' : Rd w lo 3 t m) (hl : l.length ≤ 1000) (hl' : m.length ≤ 1000) :
    callC Try.prog 24 #[s.v, t.v] (fun (r : Bool) => .bool r) w fun r w' => r = decide (l = m ∨ WorseP l m) ∧ Quiet w w' := by
  refine D24 _ _ w _ ?_
  unfold F24
  refine (same_c w s t l m h h' (by omega)).use ?_
  rintro _ w1 ⟨rfl, q1⟩
  refine jn_orW (W := w) (v := decide (WorseP l m)) q1 (fun _ => (worse_c w1 s t l m (h.keepQ q1) (h'.keepQ q1) hl hl').use ?_) fun w' q => ⟨?_, q⟩
  · rintro _ w2 ⟨rfl, q2⟩
    exact ⟨rfl, q1.tr q2⟩
  · rw [Bool.decide_or]
end Go.Proofs.Ytnoahloppffndaa
