import Derived.Test.YtnoahloppffndaaXr
namespace Go.Proofs.Ytnoahloppffndaa
open Go.Dec Go.RowKit
set_option maxHeartbeats 1600000
set_option maxRecDepth 10000

theorem certificate_c (w : World) (s : Sl) (l : List Lo) (h : Rd w lo 3 s l) (hl : l.length ≤ 1000) : callC Try.prog 37 #[s.v] (fun (r : Bool) => .bool r) w fun r w' => r = decide (CertOK l) ∧ Quiet w w' := by
  have hsl := h.len
  refine D37 _ w _ ?_
  unfold F37
  refine ⟨fun i w' => 0 ≤ i ∧ i ≤ l.length ∧ CertOK (l.take i.toNat) ∧ Quiet w w', fun i _ => (l.length - i).toNat, ⟨by omega, by omega, ⟨by simp, by simp⟩, Only.refl _ _⟩, ?_⟩
  rintro i w1 ⟨i0, i1, hC, q⟩
  refine ⟨fun hi => ?_, fun hi => ?_⟩
  rotate_left
  · have hi : ¬ i < (s.len : Int) := of_decide_eq_false hi
    rw [List.take_of_length_le (by omega)] at hC
    exact ⟨(decide_eq_true hC).symm, q⟩
  have hi : i < (s.len : Int) := of_decide_eq_true hi
  obtain ⟨x, hx⟩ := getq (l := l) i0 (by omega)
  refine jn.mk (fun r w' => (r = true ↔ ¬ CertOK (l.take i.toNat ++ [x])) ∧ Quiet w w') ?_ ?_
  · show tk _ _
    unfold tk
    replace q := q.tr (Only.drew (fun _ => False) _)
    refine (h.keepQ q).ixx i0 hx fun p hat _ => lo_ld hat ((rank_c _ x).use ?_)
    rintro _ w3 ⟨rfl, q3⟩
    replace q := q.tr q3
    refine ⟨fun g => ⟨⟨fun _ c => ?_, fun _ => rfl⟩, q⟩, fun g => ?_⟩
    · exact (CertOK.snoc.1 c).2.1.2.2 (of_decide_eq_true g)
    have g := of_decide_eq_false g
    obtain ⟨c0, c9⟩ := rank_con g
    refine ⟨fun g1 => ?_, fun g1 => ⟨⟨fun e => (by cases e), fun e => ?_⟩, q⟩⟩
    · have g1 : 0 < i := of_decide_eq_true g1
      rw [w64 (by omega) (by omega)]
      obtain ⟨z, hz⟩ := getq (l := l) (i := i - 1) (by omega) (by omega)
      refine (h.keepQ q).ixx (by omega) hz fun p hat _ => hat.ld (j := 0) rfl ((h.keepQ q).ixx i0 hx fun p hat _ => hat.ld (j := 0) rfl ⟨?_, q⟩)
      have htk : l.take i.toNat = l.take (i - 1).toNat ++ [z] := by
        rw [← take_next hz]
        congr 1
        omega
      rw [decide_eq_true_eq]
      constructor
      · intro e c
        have := (CertOK.snoc.1 c).2.2 z (by rw [htk]; simp)
        omega
      · intro e
        refine Classical.byContradiction fun hlt => e (CertOK.snoc.2 ⟨hC, ⟨c0, c9, g⟩, fun y hy => ?_⟩)
        rw [htk] at hy hC
        have hp := (CertOK.snoc.1 hC).2.2
        rcases List.mem_append.1 hy with e' | e'
        · have := hp y e'
          omega
        · rw [List.mem_singleton.1 e']
          omega
    · have g1 : ¬ 0 < i := of_decide_eq_false g1
      refine absurd (CertOK.snoc.2 ⟨hC, ⟨c0, c9, g⟩, fun y hy => ?_⟩) e
      rw [show i.toNat = 0 by omega] at hy
      simp at hy
  rintro r w4 ⟨hr, q4⟩
  refine ⟨fun g => ⟨(decide_eq_false fun c => hr.1 g (take_pre hx c)).symm, q4⟩, fun g => ?_⟩
  rw [w64 (by omega) (by omega)]
  refine ⟨⟨by omega, by omega, ?_, q4⟩, by (try dsimp only); omega⟩
  rw [toNat_succ i0, take_next hx]
  refine Classical.byContradiction fun c => ?_
  rw [hr.2 c] at g
  cases g
theorem of_c (w : World) (s : Sl) (l : List Lo) (c : Int) (h : Rd w lo 3 s l) (hl : l.length ≤ 1000) : callC Try.prog 38 #[s.v, .int .i64 c] (fun (r : Int) => .int .i64 r) w fun r w' => r = ofL l c ∧ Quiet w w' := by
  have hsl := h.len
  refine D38 _ _ w _ ?_
  unfold F38
  refine ⟨fun i w' => 0 ≤ i ∧ i ≤ l.length ∧ (l.take i.toNat).find? (fun x => decide (x.con = c)) = none ∧ Quiet w w', fun i _ => (l.length - i).toNat, ⟨by omega, by omega, by simp, Only.refl _ _⟩, ?_⟩
  rintro i w1 ⟨i0, i1, hn, q⟩
  refine ⟨fun hi => ?_, fun hi => ?_⟩
  · have hi : i < (s.len : Int) := of_decide_eq_true hi
    obtain ⟨x, hx⟩ := getq (l := l) i0 (by omega)
    refine (h.keepQ q).ixx i0 hx fun p hat _ => hat.ld (j := 0) rfl ⟨fun g => ?_, fun g => ?_⟩
    · refine (h.keepQ q).ixx i0 hx fun p hat _ => lo_ld hat ((rank_c w1 x).use ?_)
      rintro _ w2 ⟨rfl, q2⟩
      refine ⟨?_, q.tr q2⟩
      obtain ⟨hj, e⟩ := List.getElem?_eq_some_iff.1 hx
      have : l.find? (fun x => decide (x.con = c)) = some x := by
        rw [← List.take_append_drop i.toNat l, List.find?_append, hn, List.drop_eq_getElem_cons hj, e, List.find?_cons, g]
        rfl
      unfold ofL
      rw [this]
    · rw [w64 (by omega) (by omega)]
      refine ⟨⟨by omega, by omega, ?_, q⟩, by (try dsimp only); omega⟩
      rw [toNat_succ i0, take_next hx, List.find?_append, hn, List.find?_cons, g]
      rfl
  · have hi : ¬ i < (s.len : Int) := of_decide_eq_false hi
    rw [List.take_of_length_le (by omega)] at hn
    refine ⟨?_, q⟩
    unfold ofL
    rw [hn]
theorem rworse_c (w : World) (s t : Sl) (l m : List Lo) (h : Rd w lo 3 s l) (h' : Rd w lo 3 t m) (hl : l.length ≤ 1000) (hl' : m.length ≤ 1000) :
    callC Try.prog 16 #[s.v, t.v] (fun (r : Bool) => .bool r) w fun r w' => r = decide (WorseP l m) ∧ Quiet w w' := by
  refine D16 _ _ w _ ?_
  unfold F16
  refine (certificate_c w s l h hl).use ?_
  rintro _ w1 ⟨rfl, q1⟩
  refine jn_orW (W := w) (v := !decide (CertOK m)) q1 (fun _ => (certificate_c w1 t m (h'.keepQ q1) hl').use ?_) fun w3 q => ⟨fun g => ⟨(decide_eq_false fun c => ?_).symm, q⟩, fun g => ?_⟩
  · rintro _ w2 ⟨rfl, q2⟩
    exact ⟨rfl, q1.tr q2⟩
  · rw [decide_eq_true c.1, decide_eq_true c.2.1] at g
    cases g
  rw [Bool.or_eq_false_iff, Bool.not_eq_false', Bool.not_eq_false', decide_eq_true_eq, decide_eq_true_eq] at g
  refine ⟨fun (c : Bool × Int) w' => 0 ≤ c.2 ∧ c.2 ≤ 9 ∧ (∀ k : Nat, k < c.2.toNat → ofL m (k : Int) ≤ ofL l (k : Int)) ∧ (c.1 = true ↔ ∃ k : Nat, k < c.2.toNat ∧ ofL m (k : Int) < ofL l (k : Int)) ∧ Quiet w w', fun c _ => (9 - c.2).toNat, ⟨by simp, by simp, fun k hk => absurd hk (by simp), by simp, q⟩, ?_⟩
  rintro ⟨b, i⟩ w4 ⟨i0, i1, hle, hb', q4⟩
  dsimp only at i0 i1 hle hb' ⊢
  have hic : ((i.toNat : Nat) : Int) = i := Int.toNat_of_nonneg i0
  refine ⟨fun hi => ?_, fun hi => ?_⟩
  · have hi : i < 9 := of_decide_eq_true hi
    refine (of_c w4 s l i (h.keepQ q4) hl).use ?_
    rintro _ w5 ⟨rfl, q5⟩
    replace q4 := q4.tr q5
    refine (of_c w5 t m i (h'.keepQ q4) hl').use ?_
    rintro _ w6 ⟨rfl, q6⟩
    replace q4 := q4.tr q6
    refine ⟨fun g' => ⟨(decide_eq_false fun c => ?_).symm, q4⟩, fun g' => ?_⟩
    · have := c.2.2.1 i.toNat (List.mem_range.2 (by omega))
      rw [hic] at this
      have := of_decide_eq_true g'
      omega
    have g' := of_decide_eq_false g'
    refine jn_orW (W := w) (v := decide (ofL m i < ofL l i)) q4 (fun _ => (of_c w6 s l i (h.keepQ q4) hl).use ?_) fun w9 q9 => ?_
    · rintro _ w7 ⟨rfl, q7⟩
      replace q4 := q4.tr q7
      refine (of_c w7 t m i (h'.keepQ q4) hl').use ?_
      rintro _ w8 ⟨rfl, q8⟩
      exact ⟨rfl, q4.tr q8⟩
    rw [w64 (by omega) (by omega)]
    refine ⟨⟨by (try dsimp only); omega, by (try dsimp only); omega, ?_, ?_, q9⟩, by (try dsimp only); omega⟩
    · rw [toNat_succ i0]
      intro k hk
      by_cases e : k < i.toNat
      · exact hle k e
      · have : (k : Int) = i := by omega
        rw [this]
        omega
    · rw [toNat_succ i0, Bool.or_eq_true, decide_eq_true_eq, hb']
      constructor
      · rintro (⟨k, h1, h2⟩ | h)
        · exact ⟨k, by omega, h2⟩
        · exact ⟨i.toNat, by omega, by rw [hic]; exact h⟩
      · rintro ⟨k, h1, h2⟩
        by_cases e : k < i.toNat
        · exact .inl ⟨k, e, h2⟩
        · have : (k : Int) = i := by omega
          rw [this] at h2
          exact .inr h2
  · have hi : ¬ i < 9 := of_decide_eq_false hi
    refine ⟨?_, q4⟩
    rw [Bool.eq_iff_iff, hb', decide_eq_true_eq]
    constructor
    · rintro ⟨k, h1, h2⟩
      exact ⟨g.1, g.2, fun c hc => hle c (by rw [List.mem_range] at hc; omega), k, List.mem_range.2 (by omega), h2⟩
    · rintro ⟨_, _, _, k, h1, h2⟩
      exact ⟨k, by rw [List.mem_range] at h1; omega, h2⟩
theorem rright20_c (w : World) (s : Sl) (l : List Wy) (h : Rd w wy 2 s l) (hl : l.length ≤ 1000) : callC Try.prog 28 #[s.v] (fun (r : Bool) => .bool r) w fun r w' => r = decide (RightW l) ∧ w = w' := by
  have hsl := h.len
  refine D28 _ w _ ?_
  unfold F28
  refine ⟨fun i w' => 0 ≤ i ∧ i ≤ l.length ∧ (∀ x ∈ l.take i.toNat, badW x = false) ∧ w = w', fun i _ => (l.length - i).toNat, ⟨by omega, by omega, by simp, rfl⟩, ?_⟩
  rintro i w1 ⟨i0, i1, hn, rfl⟩
  refine ⟨fun hi => ?_, fun hi => ?_⟩
  · have hi : i < (s.len : Int) := of_decide_eq_true hi
    obtain ⟨x, hx⟩ := getq (l := l) i0 (by omega)
    refine h.ixx i0 hx fun p hat _ => hat.ld (j := 0) rfl ?_
    refine jp_or (v := decide (6 ≤ x.how)) (fun _ J hJ => h.ixx i0 hx fun p hat _ => hat.ld (j := 0) rfl hJ) ?_
    refine jp_or (v := decide (x.finds < 0)) (fun _ J hJ => h.ixx i0 hx fun p hat _ => hat.ld (j := 1) rfl hJ) ?_
    refine jp_or (v := decide (3 ≤ x.finds)) (fun _ J hJ => h.ixx i0 hx fun p hat _ => hat.ld (j := 1) rfl hJ) ⟨fun g => ⟨(decide_eq_false fun c => ?_).symm, rfl⟩, fun g => ?_⟩
    · have := c.2 x (List.mem_of_getElem? hx)
      unfold badW at this
      rw [this] at g
      cases g
    · rw [w64 (by omega) (by omega)]
      refine ⟨⟨by omega, by omega, ?_, rfl⟩, by (try dsimp only); omega⟩
      rw [toNat_succ i0, take_next hx]
      intro y hy
      rcases List.mem_append.1 hy with e | e
      · exact hn y e
      · rw [List.mem_singleton.1 e]
        exact g
  · have hi : ¬ i < (s.len : Int) := of_decide_eq_false hi
    rw [List.take_of_length_le (by omega)] at hn
    refine ⟨decide_eq_decide.2 ⟨fun e => ⟨by omega, hn⟩, fun e => ?_⟩, rfl⟩
    have := e.1
    omega
theorem rd_at {α : Type} {w : World} {c : α → List Value} {sz : Nat} {s : Sl} {l : List α} {i : Int} {x : α} {p : Addr} (h : Rd w c sz s l) (hx : l[i.toNat]? = some x) (hp : ∃ ad, s.a = some ad ∧ p = ad.add (i.toNat * sz)) : AtC w p (c x) := by
  obtain ⟨ad, e, rfl⟩ := hp
  obtain ⟨ad', e', hat⟩ := h.2 _ x hx
  rw [e] at e'
  injection e' with e'
  subst e'
  exact hat
theorem rcertify_c (w : World) (a : Ap) (s t : Sl) (l : List Wy) (h : Rd w cb 1 s a.types) (h' : Rd w wy 2 t l) (hl : l.length ≤ 1000) :
    callC Try.prog 11 #[pfv (pfOf a s), t.v] (fun (r : Sl × Int) => .tuple #[Sl.v r.1, .int .i64 r.2]) w fun r w' => Rd w' lo 3 r.1 (CertA a l).1 ∧ r.2 = (CertA a l).2 ∧ Quiet w w' := by
  have htl := h'.len
  refine D11 _ _ _ _ _ _ _ _ _ _ _ _ _ _ _ _ _ _ _ _ _ _ _ w _ ?_
  unfold F11
  refine nwL fun b9 w1 hb9 q1 _ _ _ => ?_
  have A : AtC w1 (Addr.mk b9 0 none) (pf (pfOf a s)) := IsPf.at hb9
  refine pf_ld A ((rcheck_c w1 a s (h.keepQ q1)).use ?_)
  rintro _ w2 ⟨rfl, q2⟩
  replace q1 := q1.tr q2
  unfold CertA
  refine ⟨fun g => ?_, fun g => ?_⟩
  · rw [if_pos (nd g)]
    exact ⟨Rd.nil _ _ _, rfl, q1⟩
  rw [if_neg (fun c => c (nt g))]
  refine (rright20_c w2 t l (h'.keepQ q1) hl).use ?_
  rintro _ w3 ⟨rfl, rfl⟩
  refine ⟨fun g => ?_, fun g => ?_⟩
  · rw [if_pos (nd g)]
    exact ⟨Rd.nil _ _ _, rfl, q1⟩
  have hR := nt g
  rw [if_neg (fun c => c hR)]
  refine ⟨fun (c : Sl × Int) w' => 0 ≤ c.2 ∧ c.2 ≤ l.length ∧ ∃ F, OwnF w' F 44 3 c.1 ((certF (l.take c.2.toNat) 0).flatMap lo) ∧ Fresh w w' F, fun c _ => (l.length - c.2).toNat, ⟨by simp, by simp, _, OwnF.nil _ _ _ _, (Fresh.none w).keep q1⟩, ?_⟩
  rintro ⟨out, i⟩ w4 ⟨i0, i1, F, ho, f⟩
  dsimp only at i0 i1 ho ⊢
  refine ⟨fun hi => ?_, fun hi => ?_⟩
  · have hi : i < (t.len : Int) := of_decide_eq_true hi
    obtain ⟨x, hx⟩ := getq (l := l) i0 (by omega)
    have hlen := certF_len (l.take i.toNat) 0
    rw [List.length_take] at hlen
    have hol := (ho.rd lo_len (by decide)).len
    have htk : certF (l.take (i.toNat + 1)) 0 = certF (l.take i.toNat) 0 ++ certF [x] i.toNat := by
      rw [take_next hx, certF_app, List.length_take, Nat.zero_add, show min i.toNat l.length = i.toNat by omega]
    refine jn.mk (fun r w' => ∃ F, OwnF w' F 44 3 r ((certF (l.take (i.toNat + 1)) 0).flatMap lo) ∧ Fresh w w' F) ?_ ?_
    · refine (h'.keepQ f.q).ixx i0 hx fun p hat _ => hat.ld (j := 0) rfl ⟨fun g => ?_, fun g => ?_⟩
      · refine jn.in_ ?_
        show tk _ _
        unfold tk
        have qd : Quiet w4 w4.drew := Only.drew _ _
        have fd := f.keep qd
        have hd := ho.keepQ qd
        generalize w4.drew = v at *
        refine (h'.keepQ fd.q).ixx i0 hx fun p1 hat1 hp1 => hat1.ld (j := 0) rfl ((h'.keepQ fd.q).ixx i0 hx fun p2 hat2 hp2 => hat2.ld (j := 1) rfl (nwL fun b w5 hb5 q5 g5 _ l5 => ⟨(hat2.keep q5 id).cj (j := 1) rfl, (hat1.keep q5 id).cj (j := 0) rfl, ?_⟩))
        have hu : Rd w5 lo 3 (⟨some ⟨b, 0, none⟩, 1, 1⟩ : Sl) [⟨i, x.how, x.finds⟩] := lo_row hb5 rfl rfl
        refine (hd.keepQ q5).app ap26 hu lo_len (by decide) lo_one (by unfold maxLen; simp; omega) (by simp; omega) fun r w6 F' ho' _ st => ?_
        have f6 := (fd.keep q5).stp st
        have k6 := h'.keepQ f6.q
        refine ⟨?_, ?_, F', ?_, f6⟩
        · exact AtC.cj (rd_at k6 hx hp2) (j := 1) rfl
        · exact AtC.cj (rd_at k6 hx hp1) (j := 0) rfl
        · rw [htk, List.flatMap_append, certF, if_neg (nd g)]
          simpa [certF, Int.toNat_of_nonneg i0] using ho'
      · refine ⟨F, ?_, f⟩
        rw [htk, certF, if_pos (nt g)]
        simpa [certF] using ho
    · rintro r w5 ⟨F', ho', f'⟩
      rw [w64 (by omega) (by omega)]
      refine ⟨⟨by (try dsimp only); omega, by (try dsimp only); omega, F', ?_, f'⟩, by (try dsimp only); omega⟩
      rw [toNat_succ i0]
      exact ho'
  · have hi : ¬ i < (t.len : Int) := of_decide_eq_false hi
    rw [List.take_of_length_le (by omega)] at ho
    exact ⟨ho.rd lo_len (by decide), rfl, f.q⟩
theorem rchk_c (w : World) (a : Ap) (s t u : Sl) (l : List Wy) (m : List Lo) (h : Rd w cb 1 s a.types) (h' : Rd w wy 2 t l) (hu : Rd w lo 3 u m) (hl : l.length ≤ 1000) :
    callC Try.prog 14 #[pfv (pfOf a s), t.v, u.v] (fun (r : Int) => .int .i64 r) w fun r w' => ChkR a l m r ∧ Quiet w w' := by
  have htl := h'.len
  refine D14 _ _ _ _ _ _ _ _ _ _ _ _ _ _ _ _ _ _ _ _ _ _ _ _ w _ ?_
  unfold F14
  refine nwL fun b9 w1 hb9 q1 _ _ _ => ?_
  have A : ∀ w', Quiet w1 w' → AtC w' (Addr.mk b9 0 none) (pf (pfOf a s)) := fun w' q => (IsPf.keepQ hb9 q).at
  refine pf_ld (A _ (Only.refl _ _)) ((rcertify_c w1 a s t l (h.keepQ q1) (h'.keepQ q1) hl).use ?_)
  rintro ⟨r, e⟩ w2 ⟨hr, he, q2⟩
  dsimp only at hr he ⊢
  subst he
  refine ⟨fun g => ⟨.inl ⟨nd g, rfl⟩, q1.tr q2⟩, fun g => ?_⟩
  have g0 := nt g
  obtain ⟨hC, hR, hcert⟩ := cert_ok g0
  rw [hcert] at hr
  have hl9 := hR.1
  refine pf_ld (A _ q2) ((rules_c w2 a s).use ?_)
  rintro r56 w3 ⟨h56, q3, _⟩
  have hrl := h56.len
  have hr22 : (rulesP a).length = 22 := rfl
  have q13 := q2.tr q3
  have hr := hr.keepQ q3
  have Q3 := q1.tr q13
  refine ⟨fun i w' => 0 ≤ i ∧ i ≤ 9 ∧ (∀ (k : Nat) (x : Wy), k < i.toNat → l[k]? = some x → (⟨x.how, x.finds, true⟩ : Op) ∈ optsP a (k : Int)) ∧ Quiet w3 w', fun i _ => (9 - i).toNat, ⟨by omega, by omega, fun k _ hk => absurd hk (by simp), Only.refl _ _⟩, ?_⟩
  rintro i w4 ⟨i0, i1, hin, q4⟩
  have hic : ((i.toNat : Nat) : Int) = i := Int.toNat_of_nonneg i0
  refine ⟨fun hi => ?_, fun hi => ?_⟩
  · have hi : i < (t.len : Int) := of_decide_eq_true hi
    have hi9 : i.toNat < 9 := by omega
    obtain ⟨x, hx⟩ := getq (l := l) i0 (by omega)
    have hmay := rules_may a hi9 x
    rw [hic] at hmay
    refine ⟨fun (c : Bool × Int) w' => 0 ≤ c.2 ∧ c.2 ≤ 22 ∧ (c.1 = true ↔ ∃ r ∈ (rulesP a).take c.2.toNat, r.may = true ∧ r.con = i ∧ r.how = x.how ∧ r.finds = x.finds) ∧ Quiet w3 w', fun c _ => (22 - c.2).toNat, ⟨by simp, by simp, by simp, q4⟩, ?_⟩
    rintro ⟨b, j⟩ w5 ⟨j0, j1, hb, q5⟩
    dsimp only at j0 j1 hb ⊢
    refine ⟨fun hj => ?_, fun hj => ?_⟩
    · have hj : j < (r56.len : Int) := of_decide_eq_true hj
      obtain ⟨y, hy⟩ := getq (l := rulesP a) j0 (by omega)
      refine jn_any' (W := w3) (b || decide (y.may = true ∧ y.con = i ∧ y.how = x.how ∧ y.finds = x.finds)) ?_ fun w7 q7 => ?_
      · show tk _ _
        unfold tk
        replace q5 := q5.tr (Only.drew (fun _ => False) _)
        have k := h56.keepQ q5
        have kw := h'.keepQ (Q3.tr q5)
        refine ⟨fun e => ⟨by rw [e]; rfl, q5⟩, fun e => ?_⟩
        rw [e, Bool.false_or]
        refine k.ixx j0 hy fun p hat _ => hat.ld (j := 4) rfl ⟨fun e1 => ?_, fun e1 => ⟨(decide_eq_false fun c => by rw [c.1] at e1; cases e1).symm, q5⟩⟩
        refine k.ixx j0 hy fun p hat _ => hat.ld (j := 0) rfl ⟨fun e2 => ?_, fun e2 => ⟨(decide_eq_false fun c => of_decide_eq_false e2 c.2.1).symm, q5⟩⟩
        refine k.ixx j0 hy fun p hat _ => hat.ld (j := 1) rfl (kw.ixx i0 hx fun p hat _ => hat.ld (j := 0) rfl ⟨fun e3 => ?_, fun e3 => ⟨(decide_eq_false fun c => of_decide_eq_false e3 c.2.2.1).symm, q5⟩⟩)
        refine k.ixx j0 hy fun p hat _ => hat.ld (j := 2) rfl (kw.ixx i0 hx fun p hat _ => hat.ld (j := 1) rfl ⟨?_, q5⟩)
        exact decide_eq_decide.2 ⟨fun e4 => ⟨e1, of_decide_eq_true e2, of_decide_eq_true e3, e4⟩, fun c => c.2.2.2⟩
      rw [w64 (by omega) (by omega)]
      refine ⟨⟨by (try dsimp only); omega, by (try dsimp only); omega, ?_, q7⟩, by (try dsimp only); omega⟩
      rw [toNat_succ j0, take_next hy, Bool.or_eq_true, decide_eq_true_eq, hb]
      constructor
      · rintro (⟨r, h1, h2⟩ | h)
        · exact ⟨r, by simp [h1], h2⟩
        · exact ⟨y, by simp, h⟩
      · rintro ⟨r, h1, h2⟩
        rcases List.mem_append.1 h1 with e | e
        · exact .inl ⟨r, e, h2⟩
        · rw [List.mem_singleton.1 e] at h2
          exact .inr h2
    · have hj : ¬ j < (r56.len : Int) := of_decide_eq_false hj
      rw [List.take_of_length_le (by omega), hmay] at hb
      refine ⟨fun g => ⟨.inr ⟨g0, .inl ⟨fun hall => ?_, rfl⟩⟩, Q3.tr q5⟩, fun g => ?_⟩
      · have := hall i.toNat x hx
        rw [hic] at this
        rw [hb.2 this] at g
        cases g
      · have hmem := hb.1 (by simpa using g)
        rw [w64 (by omega) (by omega)]
        refine ⟨⟨by omega, by omega, ?_, q5⟩, by (try dsimp only); omega⟩
        rw [toNat_succ i0]
        intro k z hk hz
        by_cases e : k < i.toNat
        · exact hin k z e hz
        · have : k = i.toNat := by omega
          subst this
          rw [hx] at hz
          injection hz with hz
          subst hz
          rw [hic]
          exact hmem
  have hi : ¬ i < (t.len : Int) := of_decide_eq_false hi
  have hall : allIn a l := fun c x hx => hin c x (by have := (List.getElem?_eq_some_iff.1 hx).1; omega) hx
  refine pf_ld (A _ (q13.tr q4)) ((best_c w4 a s).use ?_)
  rintro r103 w8 ⟨h103, q8⟩
  have Q8 := (Q3.tr q4).tr q8
  have hr8 := hr.keepQ (q4.tr q8)
  refine ⟨fun i w' => 0 ≤ i ∧ i ≤ 9 ∧ l.take i.toNat = (bestL a).take i.toNat ∧ Quiet w8 w', fun i _ => (9 - i).toNat, ⟨by omega, by omega, by simp, Only.refl _ _⟩, ?_⟩
  rintro i w9 ⟨i0, i1, hn, q9⟩
  refine ⟨fun hi => ?_, fun hi => ?_⟩
  · have hi : i < (t.len : Int) := of_decide_eq_true hi
    obtain ⟨x, hx⟩ := getq (l := l) i0 (by omega)
    obtain ⟨y, hy⟩ := getq (l := bestL a) i0 (by rw [bestL_len]; omega)
    refine jn_any' (W := w8) (!decide (x = y)) ?_ fun w11 q11 => ⟨fun g => ⟨.inr ⟨g0, .inr ⟨hall, .inr ⟨fun c => nd g ?_, rfl⟩⟩⟩, Q8.tr q11⟩, fun g => ?_⟩
    · show tk _ _
      unfold tk
      replace q9 := q9.tr (Only.drew (fun _ => False) _)
      exact (h'.keepQ (Q8.tr q9)).ixx i0 hx fun p hat _ => wy_ld hat ((h103.keepQ q9).ixx i0 hy fun p hat _ => wy_ld hat ⟨by rw [wy_eqb], q9⟩)
    · rw [c.1, hy] at hx
      injection hx with hx
      exact hx.symm
    · rw [w64 (by omega) (by omega)]
      refine ⟨⟨by omega, by omega, ?_, q11⟩, by (try dsimp only); omega⟩
      rw [toNat_succ i0, take_next hx, take_next hy, hn, nt g]
  · have hi : ¬ i < (t.len : Int) := of_decide_eq_false hi
    rw [List.take_of_length_le (by omega), List.take_of_length_le (by rw [bestL_len]; omega)] at hn
    have hcl := certF_len l 0
    refine (same_c w9 r u (certP l) m (hr8.keepQ q9) (hu.keepQ (Q8.tr q9)) (by unfold certP; omega)).use ?_
    rintro _ w12 ⟨rfl, q12⟩
    have Q := (Q8.tr q9).tr q12
    exact ⟨fun g => ⟨.inr ⟨g0, .inr ⟨hall, .inr ⟨fun c => nd g c.2, rfl⟩⟩⟩, Q⟩, fun g => ⟨.inr ⟨g0, .inr ⟨hall, .inl ⟨hn, nt g, rfl⟩⟩⟩, Q⟩⟩
theorem tells_c (w : World) (a : Ap) (s t u v : Sl) (l : List Wy) (m k : List Lo) (h : Rd w cb 1 s a.types) (hs : s.len ≤ s.cap) (h' : Rd w wy 2 t l) (hu : Rd w lo 3 u m) (hv : Rd w lo 3 v k) :
    callC Try.prog 3 #[pfv (pfOf a s), t.v, u.v, v.v] (fun (r : Bool) => .bool r) w fun r w' => r = true ∧ Quiet w w' := by
  have htl := h'.len
  have hul := hu.len
  have hvl := hv.len
  refine D3 _ _ _ _ _ _ _ _ _ _ _ _ _ _ _ _ _ _ _ _ _ _ _ _ _ w _ ?_
  unfold F3
  refine nwL fun b9 W hb9 q0 _ _ _ => ?_
  have hb9 : IsPf W b9 (pfOf a s) := hb9
  have hA : ∀ w', Quiet W w' → AtC w' (Addr.mk b9 0 none) (pf (pfOf a s)) := fun w' q => (hb9.keepQ q).at
  replace h := h.keepQ q0
  replace h' := h'.keepQ q0
  replace hu := hu.keepQ q0
  replace hv := hv.keepQ q0
  refine (small_c W).use ?_
  rintro _ w2 ⟨rfl, q⟩
  refine pf_ld (hA _ q) ((fewp_c w2 a s (h.keepQ q)).use ?_)
  rintro r33 w3 ⟨_, q3⟩
  replace q := q.tr q3
  refine ⟨fun _ => ⟨rfl, q0.tr q⟩, fun g => ?_⟩
  simp only [Bool.or_eq_false_iff, Bool.not_eq_false', decide_eq_false_iff_not] at g
  obtain ⟨⟨⟨_, g1⟩, g2⟩, g3⟩ := g
  have ll : l.length ≤ 20 := by omega
  have lm : m.length ≤ 20 := by omega
  have lk : k.length ≤ 20 := by omega
  have hcl : (CertA a l).1.length ≤ 20 := by
    unfold CertA
    split
    · exact Nat.zero_le _
    · split
      · exact Nat.zero_le _
      · exact Nat.le_trans (certF_len l 0) ll
  refine pf_ld (hA _ q) ((certify_c w3 a s t l (h.keepQ q) hs (h'.keepQ q)).use ?_)
  rintro ⟨r63, e63⟩ w4 ⟨h63, _, he, q4⟩
  dsimp only at h63 he ⊢
  subst he
  replace q := q.tr q4
  refine pf_ld (hA _ q) ((rcertify_c w4 a s t l (h.keepQ q) (h'.keepQ q) (by omega)).use ?_)
  rintro ⟨r86, e86⟩ w5 ⟨h86, he, q5⟩
  dsimp only at h86 he ⊢
  subst he
  replace q := q.tr q5
  replace h63 := h63.keepQ q5
  refine jn_any' (W := W) true ?_ fun w' q => ⟨rfl, q0.tr q⟩
  show tk _ _
  unfold tk
  have R : Quiet w5 w5.drew := Only.drew _ _
  replace q := q.tr R
  refine ⟨fun _ => ?_, fun g => (by cases g)⟩
  refine (same_c _ r63 r86 _ _ (h63.keepQ R) (h86.keepQ R) (by omega)).use ?_
  rintro _ w7 ⟨rfl, q7⟩
  replace q := q.tr q7
  replace R := R.tr q7
  refine ⟨fun _ => ⟨fun _ => ?_, fun g => absurd rfl (of_decide_eq_false g)⟩, fun g => absurd rfl (of_decide_eq_false g)⟩
  refine pf_ld (hA _ q) (pf_ld (hA _ q) ((losscheck_c w7 a s t u l m (h.keepQ q) hs (h'.keepQ q) (hu.keepQ q)).use ?_))
  rintro _ w8 ⟨hr, q8⟩
  obtain rfl := chk_eq hr
  replace q := q.tr q8
  replace R := R.tr q8
  refine ⟨pf_cj (hA _ q), (rchk_c w8 a s t u l m (h.keepQ q) (h'.keepQ q) (hu.keepQ q) (by omega)).use ?_⟩
  rintro _ w9 ⟨hr, q9⟩
  obtain rfl := chk_eq hr
  replace q := q.tr q9
  replace R := R.tr q9
  refine ⟨fun _ => ?_, fun g => absurd rfl (of_decide_eq_false g)⟩
  refine pf_ld (hA _ q) (pf_ld (hA _ q) ((losscheck_c w9 a s t r63 l _ (h.keepQ q) hs (h'.keepQ q) (h63.keepQ R)).use ?_))
  rintro _ w10 ⟨hr, q10⟩
  obtain rfl := chk_eq hr
  replace q := q.tr q10
  replace R := R.tr q10
  refine ⟨pf_cj (hA _ q), (rchk_c w10 a s t r86 l _ (h.keepQ q) (h'.keepQ q) (h86.keepQ R) (by omega)).use ?_⟩
  rintro _ w11 ⟨hr, q11⟩
  obtain rfl := chk_eq hr
  replace q := q.tr q11
  refine ⟨fun _ => ?_, fun g => absurd rfl (of_decide_eq_false g)⟩
  refine (worse_c w11 u v m k (hu.keepQ q) (hv.keepQ q) (by omega) (by omega)).use ?_
  rintro _ w12 ⟨rfl, q12⟩
  replace q := q.tr q12
  refine (rworse_c w12 u v m k (hu.keepQ q) (hv.keepQ q) (by omega) (by omega)).use ?_
  rintro _ w13 ⟨rfl, q13⟩
  exact ⟨by simp, q.tr q13⟩
theorem tells (W : World) (x : Pf) (ty : List ByteArray) (h : Rd W cb 1 x.types ty) (hs : x.types.len ≤ x.types.cap) (t : Sl) (l : List Wy) (h' : Rd W wy 2 t l) (_ : ∀ ad, t.a = some ad → 0 < l.length → ad.block < W.heap.size) (_ : l.length ≤ maxLen) (u : Sl) (m : List Lo) (hu : Rd W lo 3 u m) (_ : ∀ ad, u.a = some ad → 0 < m.length → ad.block < W.heap.size) (_ : m.length ≤ maxLen) (v : Sl) (k : List Lo) (hv : Rd W lo 3 v k) (_ : ∀ ad, v.a = some ad → 0 < k.length → ad.block < W.heap.size) (_ : k.length ≤ maxLen) :
    callC Try.prog 3 #[pfv x, t.v, u.v, v.v] (fun (r : Bool) => .bool r) W fun r w' => r = true ∧ Below W.heap.size W w' :=
  (tells_c W (apOf x ty) x.types t u v l m k h hs h' hu hv).use fun _ _ h => ⟨h.1, bq h.2⟩
end Go.Proofs.Ytnoahloppffndaa
