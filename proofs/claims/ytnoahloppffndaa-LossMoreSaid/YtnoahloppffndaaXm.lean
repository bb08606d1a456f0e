import Derived.Test.YtnoahloppffndaaXe
import Derived.Test.YtnoahloppffndaaPr
import Derived.Test.YtnoahloppffndaaPl
namespace Go.Proofs.Ytnoahloppffndaa
open Go.Dec Go.RowKit
set_option maxHeartbeats 1600000
set_option maxRecDepth 10000

/-- the rank of a construct's best way, 0 if nothing is lost -/
def rkc (c : Int) (x : Wy) : Int := if x.how = 0 then 0 else rankOf ⟨c, x.how, x.finds⟩
theorem certF_con : ∀ (l : List Wy) (n : Nat), ∀ x ∈ certF l n, (n : Int) ≤ x.con ∧ x.con < n + l.length
  | [], _, x, h => by cases h
  | y :: l, n, x, h => by
    rw [certF] at h
    rw [List.length_cons]
    split at h
    · have := certF_con l (n + 1) x h
      omega
    · rcases List.mem_cons.1 h with e | e
      · rw [e]
        constructor <;> dsimp only <;> omega
      · have := certF_con l (n + 1) x e
        omega
theorem ofL_certF : ∀ (l : List Wy) (n c : Nat) (x : Wy), l[c]? = some x → ofL (certF l n) ((n + c : Nat) : Int) = rkc ((n + c : Nat) : Int) x
  | y :: l, n, 0, x, hx => by
    simp at hx
    subst hx
    rw [certF]
    unfold rkc
    split
    · refine ofL_none fun z hz => ?_
      have := (certF_con l (n + 1) z hz).1
      omega
    · unfold ofL
      rw [List.find?_cons_of_pos (by simp)]
      rfl
  | y :: l, n, c + 1, x, hx => by
    have ih := ofL_certF l (n + 1) c x (by simpa using hx)
    rw [show n + 1 + c = n + (c + 1) by omega] at ih
    rw [certF]
    split
    · exact ih
    · rw [← ih]
      unfold ofL
      rw [List.find?_cons_of_neg (by simp; omega)]
  | [], _, _, _, hx => by simp at hx
theorem ofL_best (a : Ap) {c : Nat} (h : c < 9) : ofL (certP (bestL a)) (c : Int) = rkc (c : Int) (bestW a c) := by
  have := ofL_certF (bestL a) 0 c (bestW a c) (bestL_at a h)
  rwa [Nat.zero_add] at this
/-- the ways that a construct can have, worse and worse -/
def rowOf (c : Nat) : List Wy := match c with
  | 1 => [⟨1, 1⟩, ⟨4, 1⟩, ⟨4, 0⟩]
  | 2 => [⟨0, 0⟩, ⟨3, 2⟩]
  | 3 => [⟨0, 0⟩, ⟨2, 0⟩, ⟨3, 2⟩]
  | 4 => [⟨0, 0⟩, ⟨0, 1⟩, ⟨3, 2⟩]
  | 5 => [⟨0, 0⟩, ⟨2, 1⟩, ⟨2, 2⟩]
  | 6 => [⟨0, 0⟩, ⟨2, 2⟩]
  | 7 => [⟨0, 0⟩, ⟨2, 2⟩]
  | 8 => [⟨0, 0⟩, ⟨4, 1⟩, ⟨2, 2⟩]
  | _ => [⟨0, 0⟩]
theorem best_row (a : Ap) : ∀ c : Nat, c < 9 → bestW a c ∈ rowOf c := by
  intro c hc
  have : c = 0 ∨ c = 1 ∨ c = 2 ∨ c = 3 ∨ c = 4 ∨ c = 5 ∨ c = 6 ∨ c = 7 ∨ c = 8 := by omega
  rcases this with rfl | rfl | rfl | rfl | rfl | rfl | rfl | rfl | rfl
  · exact List.mem_singleton.2 rfl
  all_goals first | (show pickO [_, _, _] ∈ [_, _, _]) | (show pickO [_, _] ∈ [_, _])
  all_goals simp only [pickO, if_true]
  all_goals repeat' split
  all_goals simp
/-- in a row, the rank tells the way, if something is lost -/
theorem row_rank : ∀ c ∈ List.range 9, ∀ x ∈ rowOf c, ∀ y ∈ rowOf c, (rkc (c : Int) x = rkc (c : Int) y → x = y ∨ (x.how = 0 ∧ y.how = 0)) ∧ (x.how ≠ 0 → rankOf ⟨(c : Int), x.how, x.finds⟩ ≠ 0) := by decide +kernel
theorem certF_eq : ∀ (l m : List Wy) (n : Nat), l.length = m.length → (∀ (c : Nat) (x y : Wy), l[c]? = some x → m[c]? = some y → x = y ∨ (x.how = 0 ∧ y.how = 0)) → certF l n = certF m n
  | [], [], _, _, _ => rfl
  | x :: l, y :: m, n, h, hk => by
    have ih := certF_eq l m (n + 1) (by simpa using h) fun c u v hu hv => hk (c + 1) u v (by simpa using hu) (by simpa using hv)
    rw [certF, certF, ih]
    rcases hk 0 x y rfl rfl with rfl | ⟨h1, h2⟩
    · rfl
    · rw [if_pos h1, if_pos h2]
  | [], _ :: _, _, h, _ => by simp at h
  | _ :: _, [], _, h, _ => by simp at h
theorem certF_ok : ∀ (l : List Wy) (n : Nat), (∀ (c : Nat) (x : Wy), l[c]? = some x → x.how ≠ 0 → rankOf ⟨((n + c : Nat) : Int), x.how, x.finds⟩ ≠ 0) → n + l.length ≤ 9 → CertOK (certF l n)
  | [], _, _, _ => ⟨by simp [certF], by simp [certF]⟩
  | y :: l, n, h, hl => by
    have ih := certF_ok l (n + 1) (fun c x hx hh => by
      have := h (c + 1) x (by simpa using hx) hh
      rwa [show n + (c + 1) = n + 1 + c by omega] at this) (by simp at hl; omega)
    rw [certF]
    split
    · exact ih
    · rename_i hy
      simp at hl
      refine ⟨fun x hx => ?_, List.pairwise_cons.2 ⟨fun x hx => ?_, ih.2⟩⟩
      · rcases List.mem_cons.1 hx with e | e
        · subst e
          refine ⟨by dsimp only; omega, by dsimp only; omega, ?_⟩
          exact h 0 y rfl hy
        · exact ih.1 x e
      · have := (certF_con l (n + 1) x hx).1
        dsimp only
        omega
theorem cert_best_ok (a : Ap) : CertOK (certP (bestL a)) := certF_ok (bestL a) 0 (fun c x hx hh => by
  have hc : c < 9 := by
    have := (List.getElem?_eq_some_iff.1 hx).1
    rwa [bestL_len] at this
  rw [bestL_at a hc] at hx
  injection hx with hx
  subst hx
  rw [Nat.zero_add]
  exact (row_rank c (List.mem_range.2 hc) _ (best_row a c hc) _ (best_row a c hc)).2 hh) (by rw [bestL_len]; decide)
theorem pick2 (b : Bool) (x y : Wy) : pickO [⟨x.how, x.finds, b⟩, ⟨y.how, y.finds, true⟩] = if b = true then x else y := by
  cases b <;> rfl
theorem pick3 (b d : Bool) (x y z : Wy) : pickO [⟨x.how, x.finds, b⟩, ⟨y.how, y.finds, d⟩, ⟨z.how, z.finds, true⟩] = if b = true then x else if d = true then y else z := by
  cases b <;> cases d <;> rfl
/-- who can do more loses no more -/
theorem rk_mono {p q : Ap} (hp : Fine p) (hq : Fine q) (h : LeA p q) : ∀ c : Nat, c < 9 → rkc (c : Int) (bestW q c) ≤ rkc (c : Int) (bestW p c) := by
  obtain ⟨⟨x1, x2, x3, x4, x5, x6, x7, x8⟩, ⟨x9, x10, x11⟩, x12, x13⟩ := h
  have he : edits p = true → edits q = true := by
    unfold edits
    simp only [Bool.and_eq_true, decide_eq_true_eq]
    have := hp.edit
    have := hq.edit
    omega
  have key2 : ∀ (c : Nat) (b d : Bool) (x y : Wy), (b = true → d = true) → rkc (c : Int) x ≤ rkc (c : Int) y → rkc (c : Int) (if d = true then x else y) ≤ rkc (c : Int) (if b = true then x else y) := by
    intro c b d x y hb hr
    cases b <;> cases d <;> simp_all
  have key3 : ∀ (c : Nat) (b d b' d' : Bool) (x y z : Wy), (b = true → d = true) → (b' = true → d' = true) → rkc (c : Int) x ≤ rkc (c : Int) y → rkc (c : Int) y ≤ rkc (c : Int) z → rkc (c : Int) (if d = true then x else if d' = true then y else z) ≤ rkc (c : Int) (if b = true then x else if b' = true then y else z) := by
    intro c b d b' d' x y z hb hb' hr hr'
    cases b <;> cases d <;> cases b' <;> cases d' <;> simp_all <;> omega
  intro c hc
  have : c = 0 ∨ c = 1 ∨ c = 2 ∨ c = 3 ∨ c = 4 ∨ c = 5 ∨ c = 6 ∨ c = 7 ∨ c = 8 := by omega
  rcases this with rfl | rfl | rfl | rfl | rfl | rfl | rfl | rfl | rfl
  · exact Int.le_refl _
  · have h1 := pick3 (decide (2 ≤ p.parts) && decide (4400 ≤ IntKind.i64.wrap (p.size * p.parts))) (decide (2 ≤ p.parts)) ⟨1, 1⟩ ⟨4, 1⟩ ⟨4, 0⟩
    have h2 := pick3 (decide (2 ≤ q.parts) && decide (4400 ≤ IntKind.i64.wrap (q.size * q.parts))) (decide (2 ≤ q.parts)) ⟨1, 1⟩ ⟨4, 1⟩ ⟨4, 0⟩
    have ps := hp.size
    have qs := hq.size
    have pp := hp.parts
    have qp := hq.parts
    have m1 : p.size * p.parts ≤ q.size * q.parts := Int.mul_le_mul x4 x5 (by omega) (by omega)
    have m2 : q.size * q.parts ≤ 4000 * 20 := Int.mul_le_mul qs.2 qp.2 (by omega) (by omega)
    have m3 : 0 ≤ p.size * p.parts := Int.mul_nonneg (by omega) (by omega)
    refine Int.le_trans (Int.le_of_eq (congrArg (rkc 1) h2)) (Int.le_trans (key3 1 _ _ _ _ _ _ _ ?_ ?_ (by decide +kernel) (by decide +kernel)) (Int.le_of_eq (congrArg (rkc 1) h1).symm))
    · rw [w64 (by omega) (by omega), w64 (by omega) (by omega)]
      simp only [Bool.and_eq_true, decide_eq_true_eq]
      omega
    · simp only [decide_eq_true_eq]
      omega
  · exact Int.le_trans (Int.le_of_eq (congrArg (rkc 2) (pick2 (edits q) ⟨0, 0⟩ ⟨3, 2⟩))) (Int.le_trans (key2 2 _ _ _ _ he (by decide +kernel)) (Int.le_of_eq (congrArg (rkc 2) (pick2 (edits p) ⟨0, 0⟩ ⟨3, 2⟩)).symm))
  · refine Int.le_trans (Int.le_of_eq (congrArg (rkc 3) (pick3 (!decide (q.delete = 0)) (edits q) ⟨0, 0⟩ ⟨2, 0⟩ ⟨3, 2⟩))) (Int.le_trans (key3 3 _ _ _ _ _ _ _ ?_ he (by decide +kernel) (by decide +kernel)) (Int.le_of_eq (congrArg (rkc 3) (pick3 (!decide (p.delete = 0)) (edits p) ⟨0, 0⟩ ⟨2, 0⟩ ⟨3, 2⟩)).symm))
    have := hp.delete
    simp only [Bool.not_eq_true', decide_eq_false_iff_not]
    omega
  · have key4 : ∀ (b d b' d' : Bool), (b' = true → d' = true) → (b = true → b' = true) → (d = true → d' = true) → rkc 4 (if d = true then ⟨0, 0⟩ else if d' = true then ⟨0, 1⟩ else ⟨3, 2⟩) ≤ rkc 4 (if b = true then ⟨0, 0⟩ else if b' = true then ⟨0, 1⟩ else ⟨3, 2⟩) := by decide +kernel
    refine Int.le_trans (Int.le_of_eq (congrArg (rkc 4) (pick3 (q.react && decide (q.parts = 1)) q.react ⟨0, 0⟩ ⟨0, 1⟩ ⟨3, 2⟩))) (Int.le_trans (key4 (p.react && decide (p.parts = 1)) (q.react && decide (q.parts = 1)) p.react q.react x9 ?_ ?_) (Int.le_of_eq (congrArg (rkc 4) (pick3 (p.react && decide (p.parts = 1)) p.react ⟨0, 0⟩ ⟨0, 1⟩ ⟨3, 2⟩)).symm))
    · simp only [Bool.and_eq_true]
      exact fun h => h.1
    · simp only [Bool.and_eq_true]
      exact fun h => h.1
  · refine Int.le_trans (Int.le_of_eq (congrArg (rkc 5) (pick3 (decide (q.thread = 2)) (decide (q.thread = 1)) ⟨0, 0⟩ ⟨2, 1⟩ ⟨2, 2⟩))) (Int.le_trans ?_ (Int.le_of_eq (congrArg (rkc 5) (pick3 (decide (p.thread = 2)) (decide (p.thread = 1)) ⟨0, 0⟩ ⟨2, 1⟩ ⟨2, 2⟩)).symm))
    have hpt := hp.thread
    have hqt := hq.thread
    have e0 : rkc 5 ⟨0, 0⟩ = 0 := by decide +kernel
    have e1 : rkc 5 ⟨2, 1⟩ = 1 := by decide +kernel
    have e2 : rkc 5 ⟨2, 2⟩ = 2 := by decide +kernel
    simp only [decide_eq_true_eq]
    repeat' split
    all_goals omega
  · exact Int.le_trans (Int.le_of_eq (congrArg (rkc 6) (pick2 q.quote ⟨0, 0⟩ ⟨2, 2⟩))) (Int.le_trans (key2 6 _ _ _ _ x10 (by decide +kernel)) (Int.le_of_eq (congrArg (rkc 6) (pick2 p.quote ⟨0, 0⟩ ⟨2, 2⟩)).symm))
  · exact Int.le_trans (Int.le_of_eq (congrArg (rkc 7) (pick2 q.mention ⟨0, 0⟩ ⟨2, 2⟩))) (Int.le_trans (key2 7 _ _ _ _ x11 (by decide +kernel)) (Int.le_of_eq (congrArg (rkc 7) (pick2 p.mention ⟨0, 0⟩ ⟨2, 2⟩)).symm))
  · refine Int.le_trans (Int.le_of_eq (congrArg (rkc 8) (pick3 (decide (q.files = 4)) (decide (1 ≤ q.files)) ⟨0, 0⟩ ⟨4, 1⟩ ⟨2, 2⟩))) (Int.le_trans (key3 8 _ _ _ _ _ _ _ ?_ ?_ (by decide +kernel) (by decide +kernel)) (Int.le_of_eq (congrArg (rkc 8) (pick3 (decide (p.files = 4)) (decide (1 ≤ p.files)) ⟨0, 0⟩ ⟨4, 1⟩ ⟨2, 2⟩)).symm))
    · have := hq.files
      simp only [decide_eq_true_eq]
      omega
    · simp only [decide_eq_true_eq]
      omega
theorem at_least {p q : Ap} (hp : Fine p) (hq : Fine q) (h : LeA p q) : certP (bestL p) = certP (bestL q) ∨ WorseP (certP (bestL p)) (certP (bestL q)) := by
  have hm := rk_mono hp hq h
  by_cases he : ∀ c : Nat, c < 9 → rkc (c : Int) (bestW q c) = rkc (c : Int) (bestW p c)
  · refine .inl (certF_eq _ _ 0 (by rw [bestL_len, bestL_len]) fun c x y hx hy => ?_)
    have hc : c < 9 := by
      have := (List.getElem?_eq_some_iff.1 hx).1
      rwa [bestL_len] at this
    rw [bestL_at p hc] at hx
    rw [bestL_at q hc] at hy
    injection hx with hx
    injection hy with hy
    subst hx hy
    exact (row_rank c (List.mem_range.2 hc) _ (best_row p c hc) _ (best_row q c hc)).1 (he c hc).symm
  · refine .inr ⟨cert_best_ok p, cert_best_ok q, fun c hc => ?_, ?_⟩
    · have hc := List.mem_range.1 hc
      rw [ofL_best p hc, ofL_best q hc]
      exact hm c hc
    · obtain ⟨c, hc⟩ := Classical.not_forall.1 he
      obtain ⟨hc, hne⟩ := Classical.not_imp.1 hc
      refine ⟨c, List.mem_range.2 hc, ?_⟩
      rw [ofL_best p hc, ofL_best q hc]
      have := hm c hc
      omega
theorem certP_len (a : Ap) : (certP (bestL a)).length ≤ 9 := by
  have := certF_len (bestL a) 0
  rw [bestL_len] at this
  exact this
theorem more_c (w : World) (a b : Ap) (s t : Sl) (h : Rd w cb 1 s a.types) (h' : Rd w cb 1 t b.types) (hs : s.len ≤ s.cap) (ht : t.len ≤ t.cap) :
    callC Try.prog 7 #[pfv (pfOf a s), pfv (pfOf b t)] (fun (r : Bool) => .bool r) w fun r w' => r = true ∧ Quiet w w' := by
  refine D7 _ _ _ _ _ _ _ _ _ _ _ _ _ _ _ _ _ _ _ _ _ _ _ _ _ _ _ _ _ _ _ _ _ _ _ _ _ _ _ _ _ _ _ _ w _ ?_
  unfold F7
  refine nwL fun b9 w1 hb9 q1 _ _ _ => nwL fun b10 W hb10 q2 _ _ _ => ?_
  have hb9 : IsPf W b9 (pfOf a s) := Blk.keepQ hb9 q2
  have hb10 : IsPf W b10 (pfOf b t) := hb10
  have q0 := q1.tr q2
  have hA : ∀ w', Quiet W w' → AtC w' (Addr.mk b9 0 none) (pf (pfOf a s)) := fun w' q => (hb9.keepQ q).at
  have hB : ∀ w', Quiet W w' → AtC w' (Addr.mk b10 0 none) (pf (pfOf b t)) := fun w' q => (hb10.keepQ q).at
  replace h := h.keepQ q0
  replace h' := h'.keepQ q0
  have hsl := h.len
  have htl := h'.len
  refine (small_c W).use ?_
  rintro _ w3 ⟨rfl, q⟩
  refine pf_ld (hA _ q) ((fewp_c w3 a s (h.keepQ q)).use ?_)
  rintro r34 w4 ⟨f34, q4⟩
  replace q := q.tr q4
  refine jn.mk (fun r w' => (r = false → a.types.length ≤ 12 ∧ b.types.length ≤ 12) ∧ Quiet W w') ⟨fun _ => ⟨fun e => (by cases e), q⟩, fun g => pf_ld (hB _ q) ((fewp_c w4 b t (h'.keepQ q)).use ?_)⟩ ?_
  · rintro r59 w5 ⟨f59, q5⟩
    exact ⟨fun e => ⟨f34 (by simpa using g), f59 (by simpa using e)⟩, q.tr q5⟩
  clear q
  rintro c60 w6 ⟨h60, q⟩
  refine jn_orW (W := W) (v := !decide (CheckA a = 0)) q (fun _ => pf_ld (hA _ q) ((check_c w6 a s (h.keepQ q) hs).use ?_)) fun w8 q => ?_
  · rintro _ w7 ⟨rfl, q7⟩
    exact ⟨rfl, q.tr q7⟩
  refine jn_orW (W := W) (v := !decide (CheckA b = 0)) q (fun _ => pf_ld (hB _ q) ((check_c w8 b t (h'.keepQ q) ht).use ?_)) fun w10 q => ⟨fun _ => ⟨rfl, q0.tr q⟩, fun g => ?_⟩
  · rintro _ w7 ⟨rfl, q7⟩
    exact ⟨rfl, q.tr q7⟩
  simp only [Bool.or_eq_false_iff, Bool.not_eq_false', decide_eq_true_eq] at g
  obtain ⟨⟨g1, ca⟩, cb'⟩ := g
  obtain ⟨la, lb⟩ := h60 g1
  have fa := ((fine_iff a).1 ca).1
  have fb := ((fine_iff b).1 cb').1
  have lm := meet_len a b
  have lj := join_len a b
  have fm := fine_meet fa fb
  have fj := fine_join fa fb
  have cm : CheckA (meetA a b) = 0 := (fine_iff _).2 ⟨fm, by omega⟩
  refine pf_ld (hA _ q) ((certified_c w10 a s (h.keepQ q) hs).use ?_)
  rintro ⟨r136, e136⟩ w11 ⟨he, h136, _, q11⟩
  dsimp only at he h136 ⊢
  subst he
  have h136 := h136 ca
  replace q := q.tr q11
  refine pf_ld (hB _ q) ((certified_c w11 b t (h'.keepQ q) ht).use ?_)
  rintro ⟨r159, e159⟩ w12 ⟨he, h159, _, q12⟩
  dsimp only at he h159 ⊢
  subst he
  have h159 := h159 cb'
  replace q := q.tr q12
  replace h136 := h136.keepQ q12
  refine pf_ld (hA _ q) (pf_ld (hB _ q) ((meet_c w12 a b s t (h.keepQ q) (h'.keepQ q) (by omega) (by omega)).use ?_))
  rintro _ w13 ⟨_, rfl, sm, Fm, rfl, om, fm'⟩
  replace q := q.tr fm'.q
  replace h136 := h136.keepQ fm'.q
  replace h159 := h159.keepQ fm'.q
  refine (certified_c w13 (meetA a b) sm (om.rd cb1 (by decide)) om.cap).use ?_
  rintro ⟨r205, e205⟩ w14 ⟨he, h205, _, q14⟩
  dsimp only at he h205 ⊢
  subst he
  have h205 := h205 cm
  replace q := q.tr q14
  replace h136 := h136.keepQ q14
  replace h159 := h159.keepQ q14
  refine pf_ld (hA _ q) (pf_ld (hB _ q) ((join_c w14 a b s t (h.keepQ q) (h'.keepQ q) (by omega) (by omega)).use ?_))
  rintro _ w15 ⟨_, rfl, sj, Fj, rfl, oj, fj'⟩
  replace q := q.tr fj'.q
  refine (certified_c w15 (joinA a b) sj (oj.rd cb1 (by decide)) oj.cap).use ?_
  rintro ⟨r251, e251⟩ w16 ⟨he, h251, _, q16⟩
  dsimp only at he h251 ⊢
  subst he
  replace q := q.tr q16
  have q1416 := fj'.q.tr q16
  replace h136 := h136.keepQ q1416
  replace h159 := h159.keepQ q1416
  replace h205 := h205.keepQ q1416
  have Q := q0.tr q
  rw [decide_eq_true ca, decide_eq_true cb', decide_eq_true cm]
  have pa := certP_len a
  have pb := certP_len b
  have pm := certP_len (meetA a b)
  have pj := certP_len (joinA a b)
  refine jp.val false ⟨fun g => (by cases g), fun _ => ?_⟩ ⟨fun g => (by cases g), fun _ => ?_⟩
  · refine jp.val false ⟨fun g => ?_, fun _ => rfl⟩ rfl
    have hn : CheckA (joinA a b) ≠ 0 := nd g
    refine (hA _ q).ld (j := 12) rfl ((hB _ q).ld (j := 12) rfl ?_)
    show decide (IntKind.i64.wrap ((s.len : Int) + (t.len : Int)) ≤ 20) = false
    rw [w64 (by omega) (by omega)]
    refine decide_eq_false fun c => hn ((fine_iff _).2 ⟨fj, by omega⟩)
  refine pf_ld (hA _ q) (pf_ld (hB _ q) ((atMost_c w16 a b s t (h.keepQ q) (h'.keepQ q) (by omega) (by omega)).use ?_))
  rintro _ w17 ⟨rfl, q17⟩
  have R := q17
  have al : ∀ (w' : World) (x y : Ap) (sx sy : Sl), Quiet w16 w' → Rd w16 lo 3 sx (certP (bestL x)) → Rd w16 lo 3 sy (certP (bestL y)) → callC Try.prog 24 #[sx.v, sy.v] (fun (r : Bool) => .bool r) w' fun r w'' => r = decide (certP (bestL x) = certP (bestL y) ∨ WorseP (certP (bestL x)) (certP (bestL y))) ∧ Quiet w16 w'' := fun w' x y sx sy q hx hy => by
    have lx := certP_len x
    have ly := certP_len y
    exact (atLeast_c w' sx sy _ _ (hx.keepQ q) (hy.keepQ q) (by omega) (by omega)).use fun _ _ h => ⟨h.1, q.tr h.2⟩
  refine jn_any' (W := w16) false ⟨fun g => (al w17 a b r136 r159 R h136 h159).use ?_, fun _ => ⟨rfl, R⟩⟩ fun w19 R => ?_
  · rintro _ w18 ⟨rfl, q18⟩
    exact ⟨by rw [decide_eq_true (at_least fa fb (of_decide_eq_true g))]; rfl, q18⟩
  refine jn_any' (W := w16) false ⟨fun g => (by cases g), fun _ => (al w19 _ a r205 r136 R h205 h136).use ?_⟩ fun w21 R => ?_
  · rintro _ w18 ⟨rfl, q18⟩
    exact ⟨by rw [decide_eq_true (at_least fm fa (meet_le fa fb).1)]; rfl, q18⟩
  refine jn_any' (W := w16) false ⟨fun g => (by cases g), fun _ => (al w21 _ b r205 r159 R h205 h159).use ?_⟩ fun w23 R => ⟨fun g => (by cases g), fun _ => ?_⟩
  · rintro _ w18 ⟨rfl, q18⟩
    exact ⟨by rw [decide_eq_true (at_least fm fb (meet_le fa fb).2)]; rfl, q18⟩
  refine jn_any' (W := w16) true ⟨fun _ => ?_, fun g => (by cases g)⟩ fun w' R => ⟨rfl, Q.tr R⟩
  refine jn_any' (W := w16) true ⟨fun _ => ⟨rfl, R⟩, fun g => ?_⟩ fun w' R => ⟨rfl, R⟩
  have cj : CheckA (joinA a b) = 0 := nt g
  have h251 := h251 cj
  refine (al w23 a _ r136 r251 R h136 h251).use ?_
  rintro _ w24 ⟨rfl, R⟩
  rw [decide_eq_true (at_least fa fj (le_join fa fb).1)]
  refine jn_any' (W := w16) true ⟨fun _ => (al w24 b _ r159 r251 R h159 h251).use ?_, fun g => (by cases g)⟩ fun w' R => ⟨rfl, R⟩
  rintro _ w25 ⟨rfl, R⟩
  exact ⟨by rw [decide_eq_true (at_least fb fj (le_join fa fb).2)], R⟩
theorem more (W : World) (x : Pf) (l : List ByteArray) (h : Rd W cb 1 x.types l) (hs : x.types.len ≤ x.types.cap) (y : Pf) (m : List ByteArray) (h' : Rd W cb 1 y.types m) (ht : y.types.len ≤ y.types.cap) :
    callC Try.prog 7 #[pfv x, pfv y] (fun (r : Bool) => .bool r) W fun r w' => r = true ∧ Below W.heap.size W w' :=
  (more_c W (apOf x l) (apOf y m) x.types y.types h h' hs ht).use fun _ _ h => ⟨h.1, bq h.2⟩
end Go.Proofs.Ytnoahloppffndaa
