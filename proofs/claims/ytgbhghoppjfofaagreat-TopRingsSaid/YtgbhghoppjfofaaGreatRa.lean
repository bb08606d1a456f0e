import Derived.Test.YtgbhghoppjfofaaGreatAl
namespace Go.Proofs.YtgbhghoppjfofaaGreat
open Go.Dec Go.RowKit Go.Top
set_option maxHeartbeats 1000000
set_option maxRecDepth 10000

theorem rright_c (w : World) (s : Sl) (bs : List Br) (nets : Int) (h : Rd w br 3 s bs) (hl : bs.length ≤ 20) :
    callC Tryz.prog 14 #[s.v, .int .i64 nets] (fun (r : Bool) => .bool r) w fun r w' => (r = true → VB bs nets) ∧ Quiet w w' := by
  have hsl := h.len
  refine D14 _ _ w _ ?_
  unfold F14
  refine ⟨fun i w' => 0 ≤ i ∧ i ≤ bs.length ∧ (∀ b ∈ bs.take i.toNat, (0 ≤ b.src ∧ b.src < nets) ∧ (0 ≤ b.dst ∧ b.dst < nets)) ∧ Quiet w w', fun i _ => (bs.length - i).toNat, ⟨by omega, by omega, by simp, Only.refl _ _⟩, ?_⟩
  rintro i w1 ⟨i0, i1, hall, q1⟩
  refine ⟨fun hi => ?_, fun hi => ⟨fun e => ?_, q1⟩⟩
  · have hlt : i < bs.length := by rw [hsl] at hi; exact of_decide_eq_true hi
    obtain ⟨x, hx⟩ := getq i0 hlt
    refine (h.keepQ q1).ixx i0 hx fun p hat _ => br_ld hat (br_box (x := x) fun b w3 hb q3 _ _ => ?_)
    have A := hb.at
    refine A.ld (j := 0) rfl (jp_or (v := decide (nets ≤ x.src)) (fun _ J hJ => A.ld (j := 0) rfl hJ) (jp_or (v := decide (x.dst < 0)) (fun _ J hJ => A.ld (j := 1) rfl hJ) (jp_or (v := decide (nets ≤ x.dst)) (fun _ J hJ => A.ld (j := 1) rfl hJ) ⟨fun _ => ⟨fun e => (by cases e), q1.tr q3⟩, fun g => ?_⟩)))
    simp only [Bool.or_eq_false_iff] at g
    obtain ⟨⟨⟨g1, g2⟩, g3⟩, g4⟩ := g
    have g1 := of_decide_eq_false g1
    have g2 := of_decide_eq_false g2
    have g3 := of_decide_eq_false g3
    have g4 := of_decide_eq_false g4
    rw [w64 (by omega) (by omega)]
    refine ⟨⟨by omega, by omega, ?_, q1.tr q3⟩, by (try dsimp only); omega⟩
    rw [toNat_succ i0, take_next hx]
    intro b hb
    rcases List.mem_append.1 hb with hb | hb
    · exact hall b hb
    · simp at hb
      subst hb
      omega
  · rw [List.take_of_length_le (by have := of_decide_eq_false hi; omega)] at hall
    rw [Bool.and_eq_true, Bool.and_eq_true] at e
    have h1 := of_decide_eq_true e.1.1
    have h2 := of_decide_eq_true e.1.2
    exact ⟨⟨h1, h2⟩, by omega, hall⟩
theorem rhasI_c (w : World) (s : Sl) (l : List Int) (n : Int) (h : Rd w ci 1 s l) (hl : l.length ≤ 1000000) : callC Tryz.prog 20 #[s.v, .int .i64 n] (fun (r : Bool) => .bool r) w fun r w' => r = decide (n ∈ l) ∧ w = w' := by
  have hsl := h.len
  refine D20 _ _ w _ ?_
  unfold F20
  refine ⟨fun i w' => 0 ≤ i ∧ i ≤ l.length ∧ n ∉ l.take i.toNat ∧ w = w', fun i _ => (l.length - i).toNat, ⟨by omega, by omega, by simp, rfl⟩, ?_⟩
  rintro i w' ⟨i0, i1, hn, rfl⟩
  refine ⟨fun hi => ?_, fun hi => ?_⟩
  · have hlt : i < l.length := by rw [hsl] at hi; exact of_decide_eq_true hi
    obtain ⟨x, hx⟩ := getq i0 hlt
    refine h.ixx i0 hx fun p hat _ => hat.ld0 rfl ⟨fun hc => ?_, fun hc => ?_⟩
    · have : x = n := of_decide_eq_true hc
      subst this
      exact ⟨(decide_eq_true (List.mem_of_getElem? hx)).symm, rfl⟩
    · have hne : ¬ x = n := of_decide_eq_false hc
      rw [w64 (by omega) (by omega)]
      refine ⟨⟨by omega, by omega, ?_, rfl⟩, by (try dsimp only); omega⟩
      rw [toNat_succ i0, take_next hx]
      simp only [List.mem_append, List.mem_singleton, not_or]
      exact ⟨hn, fun e => hne e.symm⟩
  · have hge : l.length ≤ i.toNat := by have := of_decide_eq_false hi; omega
    rw [List.take_of_length_le hge] at hn
    exact ⟨(decide_eq_false hn).symm, rfl⟩
theorem containsI_c (w : World) (s : Sl) (l : List Int) (n : Int) (h : Rd w ci 1 s l) (hl : l.length ≤ 1000000) : callC Tryz.prog 62 #[s.v, .int .i64 n] (fun (r : Bool) => .bool r) w fun r w' => r = decide (n ∈ l) ∧ w = w' := by
  have hsl := h.len
  refine D62 _ _ w _ ?_
  unfold F62
  refine callC.use (R := fun r w' => decide (0 ≤ r) = decide (n ∈ l) ∧ w = w') (D81 _ _ w _ ?_) fun r w' h => h
  unfold F81
  refine ⟨fun i w' => 0 ≤ i ∧ i ≤ l.length ∧ n ∉ l.take i.toNat ∧ w = w', fun i _ => (l.length - i).toNat, ⟨by omega, by omega, by simp, rfl⟩, ?_⟩
  rintro i w' ⟨i0, i1, hn, rfl⟩
  refine ⟨fun hi => ?_, fun hi => ?_⟩
  · have hlt : i < l.length := by rw [hsl] at hi; exact of_decide_eq_true hi
    obtain ⟨x, hx⟩ := getq i0 hlt
    refine h.ixx i0 hx fun p hat _ => hat.ld0 rfl ⟨fun hc => ?_, fun hc => ?_⟩
    · have : n = x := of_decide_eq_true hc
      subst this
      exact ⟨by rw [decide_eq_true i0, decide_eq_true (List.mem_of_getElem? hx)], rfl⟩
    · have hne : ¬ n = x := of_decide_eq_false hc
      rw [w64 (by omega) (by omega)]
      refine ⟨⟨by omega, by omega, ?_, rfl⟩, by (try dsimp only); omega⟩
      rw [toNat_succ i0, take_next hx]
      simp only [List.mem_append, List.mem_singleton, not_or]
      exact ⟨hn, hne⟩
  · have hge : l.length ≤ i.toNat := by have := of_decide_eq_false hi; omega
    rw [List.take_of_length_le hge] at hn
    exact ⟨by rw [decide_eq_false hn]; rfl, rfl⟩
/-- the indices below n that are not cut -/
def opn (ct : List Nat) (n : Nat) : List Nat := (List.range n).filter fun i => decide (i ∉ ct)
theorem opn_succ (ct : List Nat) (n : Nat) : opn ct (n + 1) = opn ct n ++ (if n ∈ ct then [] else [n]) := by
  unfold opn
  rw [List.range_succ, List.filter_append]
  by_cases h : n ∈ ct <;> simp [h]
theorem opn_mem {ct : List Nat} {n i : Nat} : i ∈ opn ct n ↔ i < n ∧ i ∉ ct := by simp [opn]
theorem opn_len (ct : List Nat) (n : Nat) : (opn ct n).length ≤ n := by
  have := List.length_filter_le (fun i => decide (i ∉ ct)) (List.range n)
  simpa [opn] using this
theorem cast_mem {ct : List Nat} {n : Nat} : ((n : Int) ∈ casts ct) ↔ n ∈ ct := by
  unfold casts
  rw [List.mem_map]
  exact ⟨fun ⟨a, h, e⟩ => by have : a = n := by omega
                             exact this ▸ h, fun h => ⟨n, h, rfl⟩⟩
theorem ropen_c (w : World) (s t : Sl) (bs : List Br) (ct : List Nat) (h : Rd w br 3 s bs) (hc : Rd w ci 1 t (casts ct)) (hl : bs.length ≤ 200) (hcl : ct.length ≤ 1000) :
    callC Tryz.prog 16 #[s.v, t.v] Sl.v w fun r w' => ∃ F, OwnF w' F 3 1 r ((casts (opn ct bs.length)).flatMap ci) ∧ Fresh w w' F := by
  have hsl := h.len
  refine D16 _ _ w _ ?_
  unfold F16
  refine ⟨fun c w' => 0 ≤ c.2 ∧ c.2 ≤ bs.length ∧ ∃ F, OwnF w' F 3 1 c.1 ((casts (opn ct c.2.toNat)).flatMap ci) ∧ Fresh w w' F, fun c _ => ((bs.length : Int) - c.2).toNat, ⟨Int.le_refl _, by (try dsimp only); omega, _, OwnF.nil _ (fun _ => False) _ _, Fresh.none w⟩, ?_⟩
  rintro ⟨o, i⟩ w1 ⟨i0, i1, F, o1, f1⟩
  dsimp only at i0 i1 o1 ⊢
  obtain ⟨k, rfl⟩ := Int.eq_ofNat_of_zero_le i0
  have hol : o.len ≤ k := by
    have h1 := (o1.rd ci1 (by decide)).len
    rw [casts_len] at h1
    have := opn_len ct ((k : Int)).toNat
    omega
  refine ⟨fun hi => ?_, fun hi => ?_⟩
  · have hlt : (k : Int) < bs.length := by have := of_decide_eq_true hi; omega
    refine jn.mk (fun r w' => ∃ F, OwnF w' F 3 1 r ((casts (opn ct (k + 1))).flatMap ci) ∧ Fresh w w' F) ((rhasI_c w1 t _ (k : Int) (hc.keepQ f1.q) (by rw [casts_len]; omega)).use ?_) ?_
    · rintro r w3 ⟨rfl, rfl⟩
      rw [opn_succ]
      refine ⟨fun g => ?_, fun g => ?_⟩
      · have hn : k ∉ ct := fun e => nd g (cast_mem.2 e)
        rw [if_neg hn, casts_add]
        exact OwnF.push (news := ci (k : Int)) apI o1 rfl rfl (by unfold maxLen; omega) (by omega) fun r w5 F' o5 _ st5 => ⟨F', o5, f1.stp st5⟩
      · rw [if_pos (cast_mem.1 (nt g)), List.append_nil]
        exact ⟨F, o1, f1⟩
    rintro r w2 ⟨F2, o2, f2⟩
    rw [w64 (by omega) (by omega)]
    refine ⟨⟨by (try dsimp only); omega, by (try dsimp only); omega, F2, ?_, f2⟩, by (try dsimp only); omega⟩
    (try dsimp only)
    rw [show ((k : Int) + 1).toNat = k + 1 by omega]
    exact o2
  · have : k = bs.length := by have := of_decide_eq_false hi; omega
    subst this
    rw [Int.toNat_natCast] at o1
    exact ⟨F, o1, f1⟩
theorem others_c (w : World) (s t : Sl) (bs : List Br) (ct : List Nat) (h : Rd w br 3 s bs) (hc : Rd w ci 1 t (casts ct)) (hl : bs.length ≤ 200) (hcl : ct.length ≤ 1000) :
    callC Tryz.prog 39 #[s.v, t.v] Sl.v w fun r w' => ∃ F, OwnF w' F 3 1 r ((casts (opn ct bs.length)).flatMap ci) ∧ Fresh w w' F := by
  have hsl := h.len
  refine D39 _ _ w _ ?_
  unfold F39
  refine ⟨fun c w' => 0 ≤ c.2 ∧ c.2 ≤ bs.length ∧ ∃ F, OwnF w' F 3 1 c.1 ((casts (opn ct c.2.toNat)).flatMap ci) ∧ Fresh w w' F, fun c _ => ((bs.length : Int) - c.2).toNat, ⟨Int.le_refl _, by (try dsimp only); omega, _, OwnF.nil _ (fun _ => False) _ _, Fresh.none w⟩, ?_⟩
  rintro ⟨o, i⟩ w1 ⟨i0, i1, F, o1, f1⟩
  dsimp only at i0 i1 o1 ⊢
  obtain ⟨k, rfl⟩ := Int.eq_ofNat_of_zero_le i0
  have hol : o.len ≤ k := by
    have h1 := (o1.rd ci1 (by decide)).len
    rw [casts_len] at h1
    have := opn_len ct ((k : Int)).toNat
    omega
  refine ⟨fun hi => ?_, fun hi => ?_⟩
  · have hlt : (k : Int) < bs.length := by have := of_decide_eq_true hi; omega
    refine jn.mk (fun r w' => ∃ F, OwnF w' F 3 1 r ((casts (opn ct (k + 1))).flatMap ci) ∧ Fresh w w' F) ((containsI_c w1 t _ (k : Int) (hc.keepQ f1.q) (by rw [casts_len]; omega)).use ?_) ?_
    · rintro r w3 ⟨rfl, rfl⟩
      rw [opn_succ]
      refine ⟨fun g => ?_, fun g => ?_⟩
      · have hn : k ∉ ct := fun e => nd g (cast_mem.2 e)
        rw [if_neg hn, casts_add]
        exact OwnF.push (news := ci (k : Int)) apI o1 rfl rfl (by unfold maxLen; omega) (by omega) fun r w5 F' o5 _ st5 => ⟨F', o5, f1.stp st5⟩
      · rw [if_pos (cast_mem.1 (nt g)), List.append_nil]
        exact ⟨F, o1, f1⟩
    rintro r w2 ⟨F2, o2, f2⟩
    rw [w64 (by omega) (by omega)]
    refine ⟨⟨by (try dsimp only); omega, by (try dsimp only); omega, F2, ?_, f2⟩, by (try dsimp only); omega⟩
    (try dsimp only)
    rw [show ((k : Int) + 1).toNat = k + 1 by omega]
    exact o2
  · have : k = bs.length := by have := of_decide_eq_false hi; omega
    subst this
    rw [Int.toNat_natCast] at o1
    exact ⟨F, o1, f1⟩
end Go.Proofs.YtgbhghoppjfofaaGreat
