import Derived.Test.YtadlnbdelkbboaaPq
namespace Go.Proofs.Ytadlnbdelkbboaa
open Go.Dec Go.RowKit
set_option maxHeartbeats 400000
set_option maxRecDepth 10000

theorem allR_eq (a b : Ap) : allR (fun x y => decide (x = y)) (numsA a) (numsA b) ↔ a.edit = b.edit ∧ a.delete = b.delete ∧ a.react = b.react ∧ a.thread = b.thread ∧ a.quote = b.quote ∧ a.mention = b.mention ∧ a.size = b.size ∧ a.parts = b.parts ∧ a.files = b.files ∧ a.bytes = b.bytes ∧ a.level = b.level := by
  rw [allR_nums]
  simp only [decide_eq_true_eq]
  have e : ∀ x y, b2i x = b2i y ↔ x = y := fun x y => ⟨b2i_inj, fun h => h ▸ rfl⟩
  rw [e, e, e]
def RestA (a b : Ap) : Prop := (((((((((a.name = b.name ∧ a.within = b.within) ∧ a.join = b.join) ∧ a.history = b.history) ∧ a.remove = b.remove) ∧ a.batch = b.batch) ∧ a.rate = b.rate) ∧ a.down = b.down) ∧ a.window = b.window) ∧ a.keep = b.keep)
instance (a b : Ap) : Decidable (RestA a b) := by unfold RestA; infer_instance
theorem same_iff (a b : Ap) : a = b ↔ allR (fun x y => decide (x = y)) (numsA a) (numsA b) ∧ a.types = b.types ∧ RestA a b := by
  rw [allR_eq]
  unfold RestA
  constructor
  · rintro rfl
    simp
  · rintro ⟨⟨h1, h2, h3, h4, h5, h6, h7, h8, h9, h10, h11⟩, h12, ⟨⟨⟨⟨⟨⟨⟨⟨⟨g1, g2⟩, g3⟩, g4⟩, g5⟩, g6⟩, g7⟩, g8⟩, g9⟩, g10⟩⟩
    cases a
    cases b
    simp only at *
    simp [*]
theorem same_c (w : World) (a b : Ap) (s t : Sl) (h : Rd w cb 1 s a.types) (h' : Rd w cb 1 t b.types) (hl : a.types.length ≤ 1000000) :
    callC Try.prog 14 #[pfv (pfOf a s), pfv (pfOf b t)] (fun (r : Bool) => .bool r) w fun r w' => r = decide (a = b) ∧ Quiet w w' := by
  have hsl := h.len
  have htl := h'.len
  have hIff := same_iff a b
  refine D14 _ _ _ _ _ _ _ _ _ _ _ _ _ _ _ _ _ _ _ _ _ _ _ _ _ _ _ _ _ _ _ _ _ _ _ _ _ _ _ _ _ _ _ _ w _ ?_
  unfold F14
  refine nwL fun b1 w1 hb1 q1 _ _ _ => nwL fun b2 w2 hb2 q2 _ _ _ => ?_
  have hb1 : IsPf w2 b1 (pfOf a s) := Blk.keepQ hb1 q2
  have hb2 : IsPf w2 b2 (pfOf b t) := hb2
  have q02 := q1.tr q2
  refine pf_ld hb1.at ((numbers_c w2 a s).use ?_)
  rintro r25 w3 ⟨FA, oA, fA⟩
  refine pf_ld (hb2.keepQ fA.q).at ((numbers_c w3 b t).use ?_)
  rintro r48 w4 ⟨FB, oB, fB⟩
  have rA := (oA.keepQ fB.q).rd ci1 (by decide)
  have rB := oB.rd ci1 (by decide)
  have lA := rA.len
  rw [numsA_len] at lA
  have q24 := fA.q.tr fB.q
  have q04 := q02.tr q24
  have hA : ∀ w', Quiet w4 w' → AtC w' (Addr.mk b1 0 none) (pf (pfOf a s)) := fun w' q => (hb1.keepQ (q24.tr q)).at
  have hB : ∀ w', Quiet w4 w' → AtC w' (Addr.mk b2 0 none) (pf (pfOf b t)) := fun w' q => (hb2.keepQ (q24.tr q)).at
  refine ⟨fun i w' => 0 ≤ i ∧ i ≤ 11 ∧ (∀ k x y, k < i.toNat → (numsA a)[k]? = some x → (numsA b)[k]? = some y → (fun x y => decide (x = y)) x y = true) ∧ Quiet w4 w', fun i _ => (11 - i).toNat, ⟨by omega, by omega, fun k _ _ hk => absurd hk (by simp), Only.refl _ _⟩, ?_⟩
  rintro i w5 ⟨i0, i1, hno, q5⟩
  refine ⟨fun hi => ?_, fun hi => ?_⟩
  · have hi : i < (r25.len : Int) := of_decide_eq_true hi
    obtain ⟨x, hx⟩ := getq (l := numsA a) i0 (by rw [numsA_len]; omega)
    obtain ⟨y, hy⟩ := getq (l := numsA b) i0 (by rw [numsA_len]; omega)
    refine jn.mk (fun c w' => c = (!decide (x = y)) ∧ Quiet w4 w') ?_ ?_
    · show tk w5 _
      unfold tk
      have qd := q5.tr (Only.drew (fun _ => False) w5)
      exact (rA.keepQ qd).ixx i0 hx fun p hat _ => hat.ld0 rfl ((rB.keepQ qd).ixx i0 hy fun p hat _ => hat.ld0 rfl ⟨rfl, qd⟩)
    rintro c w7 ⟨rfl, q7⟩
    refine ⟨fun g => ⟨(decide_eq_false fun c => ?_).symm, q04.tr q7⟩, fun g => ?_⟩
    · have : decide (x = y) = true := (hIff.1 c).1 i.toNat x y hx hy
      rw [this] at g
      cases g
    · rw [w64 (by omega) (by omega)]
      refine ⟨⟨by omega, by omega, ?_, q7⟩, by (try dsimp only); omega⟩
      rw [toNat_succ i0]
      exact cmp_next hx hy hno (decide_eq_true (nt g))
  have hn : allR (fun x y => decide (x = y)) (numsA a) (numsA b) := fun k x y hx hy => hno k x y (by
    have := (List.getElem?_eq_some_iff.1 hx).1
    rw [numsA_len] at this
    have hi : ¬ i < (r25.len : Int) := of_decide_eq_false hi
    omega) hx hy
  clear hno hi i0 i1
  refine (hA _ q5).ld (j := 12) rfl ((hB _ q5).ld (j := 12) rfl ⟨fun g => ⟨(decide_eq_false fun c => ?_).symm, q04.tr q5⟩, fun g => ?_⟩)
  · have g : ¬ ((s.len : Int) = (t.len : Int)) := nd g
    rw [c] at hsl
    omega
  have g : (s.len : Int) = (t.len : Int) := nt g
  have hll : a.types.length = b.types.length := by omega
  refine ⟨fun i w' => 0 ≤ i ∧ i ≤ a.types.length ∧ a.types.take i.toNat = b.types.take i.toNat ∧ Quiet w4 w', fun i _ => (a.types.length - i).toNat, ⟨by omega, by omega, by simp, q5⟩, ?_⟩
  rintro i w8 ⟨i0, i1, hno, q8⟩
  refine (hA _ q8).ld (j := 12) rfl ⟨fun hi => ?_, fun hi => ?_⟩
  · have hi : i < (s.len : Int) := of_decide_eq_true hi
    obtain ⟨x, hx⟩ := getq (l := a.types) i0 (by omega)
    obtain ⟨y, hy⟩ := getq (l := b.types) i0 (by omega)
    refine jn.mk (fun c w' => c = (!decide (x = y)) ∧ Quiet w4 w') ?_ ?_
    · show tk w8 _
      unfold tk
      have qd := q8.tr (Only.drew (fun _ => False) w8)
      exact (hA _ qd).ld (j := 12) rfl ((h.keepQ (q04.tr qd)).ixx i0 hx fun p hat _ => hat.ld0 rfl ((hB _ qd).ld (j := 12) rfl ((h'.keepQ (q04.tr qd)).ixx i0 hy fun p hat _ => hat.ld0 rfl ⟨by rw [beqS_eq], qd⟩)))
    rintro c w10 ⟨rfl, q10⟩
    refine ⟨fun g => ⟨(decide_eq_false fun c => ?_).symm, q04.tr q10⟩, fun g => ?_⟩
    · rw [c, hy] at hx
      injection hx with hx
      exact nd g hx.symm
    · rw [w64 (by omega) (by omega)]
      refine ⟨⟨by omega, by omega, ?_, q10⟩, by (try dsimp only); omega⟩
      rw [toNat_succ i0, take_next hx, take_next hy, hno, nt g]
  have hi : ¬ i < (s.len : Int) := of_decide_eq_false hi
  rw [List.take_of_length_le (by omega), List.take_of_length_le (by omega)] at hno
  have hfin : decide (a = b) = decide (RestA a b) := by
    rw [decide_eq_decide, hIff]
    exact ⟨fun c => c.2.2, fun c => ⟨hn, hno, c⟩⟩
  rw [hfin]
  refine (hA _ q8).ld (j := 0) rfl ((hB _ q8).ld (j := 0) rfl (jp_and (fun _ J hJ => (hA _ q8).ld (j := 2) rfl ((hB _ q8).ld (j := 2) rfl hJ)) (jp_and (fun _ J hJ => (hA _ q8).ld (j := 13) rfl ((hB _ q8).ld (j := 13) rfl hJ)) (jp_and (fun _ J hJ => (hA _ q8).ld (j := 14) rfl ((hB _ q8).ld (j := 14) rfl hJ)) (jp_and (fun _ J hJ => (hA _ q8).ld (j := 15) rfl ((hB _ q8).ld (j := 15) rfl hJ)) (jp_and (fun _ J hJ => (hA _ q8).ld (j := 17) rfl ((hB _ q8).ld (j := 17) rfl hJ)) (jp_and (fun _ J hJ => (hA _ q8).ld (j := 18) rfl ((hB _ q8).ld (j := 18) rfl hJ)) (jp_and (fun _ J hJ => (hA _ q8).ld (j := 19) rfl ((hB _ q8).ld (j := 19) rfl hJ)) (jp_and (fun _ J hJ => (hA _ q8).ld (j := 20) rfl ((hB _ q8).ld (j := 20) rfl hJ)) (jp_and (fun _ J hJ => (hA _ q8).ld (j := 21) rfl ((hB _ q8).ld (j := 21) rfl hJ)) (⟨?_, q04.tr q8⟩)))))))))))
  rw [beqS_eq, Bool.eq_iff_iff, decide_eq_true_iff]
  unfold RestA
  simp only [Bool.and_eq_true, decide_eq_true_eq, beq_iff_eq]
  rfl
def AlikeA (a b : Ap) : Prop := (a.edit = b.edit ∧ a.delete = b.delete ∧ a.react = b.react ∧ a.thread = b.thread ∧ a.quote = b.quote ∧ a.mention = b.mention ∧ a.size = b.size ∧ a.parts = b.parts ∧ a.files = b.files ∧ a.bytes = b.bytes ∧ a.level = b.level) ∧ (∀ t ∈ a.types, t ∈ b.types) ∧ a.types.length = b.types.length ∧ a.within = b.within
instance (a b : Ap) : Decidable (AlikeA a b) := by unfold AlikeA; infer_instance
theorem alike_c (w : World) (a b : Ap) (s t : Sl) (h : Rd w cb 1 s a.types) (h' : Rd w cb 1 t b.types) (hl : a.types.length ≤ 1000000) (hl' : b.types.length ≤ 1000000) :
    callC Try.prog 20 #[pfv (pfOf a s), pfv (pfOf b t)] (fun (r : Bool) => .bool r) w fun r w' => r = decide (AlikeA a b) ∧ Quiet w w' := by
  have hsl := h.len
  have htl := h'.len
  have hIff : AlikeA a b ↔ allR (fun x y => decide (x = y)) (numsA a) (numsA b) ∧ (∀ t ∈ a.types, t ∈ b.types) ∧ a.types.length = b.types.length ∧ a.within = b.within := by
    rw [allR_eq]
    rfl
  refine D20 _ _ _ _ _ _ _ _ _ _ _ _ _ _ _ _ _ _ _ _ _ _ _ _ _ _ _ _ _ _ _ _ _ _ _ _ _ _ _ _ _ _ _ _ w _ ?_
  unfold F20
  refine nwL fun b1 w1 hb1 q1 _ _ _ => nwL fun b2 w2 hb2 q2 _ _ _ => ?_
  have hb1 : IsPf w2 b1 (pfOf a s) := Blk.keepQ hb1 q2
  have hb2 : IsPf w2 b2 (pfOf b t) := hb2
  have q02 := q1.tr q2
  refine pf_ld hb1.at ((numbers_c w2 a s).use ?_)
  rintro r25 w3 ⟨FA, oA, fA⟩
  refine pf_ld (hb2.keepQ fA.q).at ((numbers_c w3 b t).use ?_)
  rintro r48 w4 ⟨FB, oB, fB⟩
  have rA := (oA.keepQ fB.q).rd ci1 (by decide)
  have rB := oB.rd ci1 (by decide)
  have lA := rA.len
  rw [numsA_len] at lA
  have q24 := fA.q.tr fB.q
  have q04 := q02.tr q24
  have hA : ∀ w', Quiet w4 w' → AtC w' (Addr.mk b1 0 none) (pf (pfOf a s)) := fun w' q => (hb1.keepQ (q24.tr q)).at
  have hB : ∀ w', Quiet w4 w' → AtC w' (Addr.mk b2 0 none) (pf (pfOf b t)) := fun w' q => (hb2.keepQ (q24.tr q)).at
  refine ⟨fun i w' => 0 ≤ i ∧ i ≤ 11 ∧ (∀ k x y, k < i.toNat → (numsA a)[k]? = some x → (numsA b)[k]? = some y → (fun x y => decide (x = y)) x y = true) ∧ Quiet w4 w', fun i _ => (11 - i).toNat, ⟨by omega, by omega, fun k _ _ hk => absurd hk (by simp), Only.refl _ _⟩, ?_⟩
  rintro i w5 ⟨i0, i1, hno, q5⟩
  refine ⟨fun hi => ?_, fun hi => ?_⟩
  · have hi : i < (r25.len : Int) := of_decide_eq_true hi
    obtain ⟨x, hx⟩ := getq (l := numsA a) i0 (by rw [numsA_len]; omega)
    obtain ⟨y, hy⟩ := getq (l := numsA b) i0 (by rw [numsA_len]; omega)
    refine jn.mk (fun c w' => c = (!decide (x = y)) ∧ Quiet w4 w') ?_ ?_
    · show tk w5 _
      unfold tk
      have qd := q5.tr (Only.drew (fun _ => False) w5)
      exact (rA.keepQ qd).ixx i0 hx fun p hat _ => hat.ld0 rfl ((rB.keepQ qd).ixx i0 hy fun p hat _ => hat.ld0 rfl ⟨rfl, qd⟩)
    rintro c w7 ⟨rfl, q7⟩
    refine ⟨fun g => ⟨(decide_eq_false fun c => ?_).symm, q04.tr q7⟩, fun g => ?_⟩
    · have : decide (x = y) = true := (hIff.1 c).1 i.toNat x y hx hy
      rw [this] at g
      cases g
    · rw [w64 (by omega) (by omega)]
      refine ⟨⟨by omega, by omega, ?_, q7⟩, by (try dsimp only); omega⟩
      rw [toNat_succ i0]
      exact cmp_next hx hy hno (decide_eq_true (nt g))
  have hn : allR (fun x y => decide (x = y)) (numsA a) (numsA b) := fun k x y hx hy => hno k x y (by
    have := (List.getElem?_eq_some_iff.1 hx).1
    rw [numsA_len] at this
    have hi : ¬ i < (r25.len : Int) := of_decide_eq_false hi
    omega) hx hy
  clear hno hi i0 i1
  refine ⟨fun i w' => 0 ≤ i ∧ i ≤ a.types.length ∧ (∀ t ∈ a.types.take i.toNat, t ∈ b.types) ∧ Quiet w4 w', fun i _ => (a.types.length - i).toNat, ⟨by omega, by omega, by simp, q5⟩, ?_⟩
  rintro i w8 ⟨i0, i1, hno, q8⟩
  refine (hA _ q8).ld (j := 12) rfl ⟨fun hi => ?_, fun hi => ?_⟩
  · have hi : i < (s.len : Int) := of_decide_eq_true hi
    obtain ⟨x, hx⟩ := getq (l := a.types) i0 (by omega)
    refine jn.mk (fun c w' => c = !decide (x ∈ b.types) ∧ Quiet w4 w') ?_ ?_
    · show tk w8 _
      unfold tk
      have qd := q8.tr (Only.drew (fun _ => False) w8)
      exact (hB _ qd).ld (j := 12) rfl ((hA _ qd).ld (j := 12) rfl ((h.keepQ (q04.tr qd)).ixx i0 hx fun p hat _ => hat.ld0 rfl (use_same (rhas_c _ t b.types x (h'.keepQ (q04.tr qd)) hl') ⟨(hA _ qd).cj rfl, rfl, qd⟩)))
    rintro c w11 ⟨rfl, q11⟩
    refine ⟨fun g => ⟨(decide_eq_false fun c => nd g (c.2.1 x (List.mem_of_getElem? hx))).symm, q04.tr q11⟩, fun g => ?_⟩
    rw [w64 (by omega) (by omega)]
    refine ⟨⟨by omega, by omega, ?_, q11⟩, by (try dsimp only); omega⟩
    rw [toNat_succ i0, take_next hx]
    intro t ht
    rcases List.mem_append.1 ht with e | e
    · exact hno t e
    · rw [List.mem_singleton.1 e]
      exact nt g
  rw [List.take_of_length_le (by
    have hi : ¬ i < (s.len : Int) := of_decide_eq_false hi
    omega)] at hno
  have hfin : decide (AlikeA a b) = decide (a.types.length = b.types.length ∧ a.within = b.within) := by
    rw [decide_eq_decide, hIff]
    exact ⟨fun c => c.2.2, fun c => ⟨hn, hno, c⟩⟩
  rw [hfin]
  refine (hA _ q8).ld (j := 12) rfl ((hB _ q8).ld (j := 12) rfl (jp_and (fun _ J hJ => (hA _ q8).ld (j := 2) rfl ((hB _ q8).ld (j := 2) rfl hJ)) ⟨?_, q04.tr q8⟩))
  rw [Bool.decide_and]
  show (decide ((s.len : Int) = (t.len : Int)) && decide (a.within = b.within)) = _
  rw [(decide_eq_decide.2 (show ((s.len : Int) = (t.len : Int)) ↔ a.types.length = b.types.length by omega) : decide ((s.len : Int) = (t.len : Int)) = decide (a.types.length = b.types.length))]

theorem few3_c (w : World) (a b c : Ap) (s t u : Sl) (h1 : Rd w cb 1 s a.types) (h2 : Rd w cb 1 t b.types) (h3 : Rd w cb 1 u c.types) :
    callC Try.prog 9 #[pfv (pfOf a s), pfv (pfOf b t), pfv (pfOf c u)] (fun (r : Bool) => .bool r) w fun r w' => (r = true → a.types.length ≤ 12 ∧ b.types.length ≤ 12 ∧ c.types.length ≤ 12) ∧ Quiet w w' := by
  refine D9 _ _ _ _ _ _ _ _ _ _ _ _ _ _ _ _ _ _ _ _ _ _ _ _ _ _ _ _ _ _ _ _ _ _ _ _ _ _ _ _ _ _ _ _ _ _ _ _ _ _ _ _ _ _ _ _ _ _ _ _ _ _ _ _ _ _ w _ ?_
  unfold F9
  refine nwL fun b1 w1 hb1 q1 _ _ _ => nwL fun b2 w2 hb2 q2 _ _ _ => nwL fun b3 w3 hb3 q3 _ _ _ => ?_
  have hb1 : IsPf w3 b1 (pfOf a s) := Blk.keepQ hb1 (q2.tr q3)
  have hb2 : IsPf w3 b2 (pfOf b t) := Blk.keepQ hb2 q3
  have hb3 : IsPf w3 b3 (pfOf c u) := hb3
  have q := (q1.tr q2).tr q3
  refine pf_ld hb1.at ((few_c w3 a s (h1.keepQ q)).use ?_)
  rintro r1 w4 ⟨e1, q4⟩
  refine jn.mk (fun r w' => (r = true → a.types.length ≤ 12 ∧ b.types.length ≤ 12) ∧ Quiet w3 w') ⟨fun g => pf_ld (hb2.keepQ q4).at ((few_c w4 b t (h2.keepQ (q.tr q4))).use ?_), fun g => ⟨fun e => (by cases e), q4⟩⟩ ?_
  · rintro r2 w5 ⟨e2, q5⟩
    exact ⟨fun e => ⟨e1 g, e2 e⟩, q4.tr q5⟩
  rintro c52 w6 ⟨e3, q6⟩
  refine jn.mk (fun r w' => (r = true → a.types.length ≤ 12 ∧ b.types.length ≤ 12 ∧ c.types.length ≤ 12) ∧ Quiet w3 w') ⟨fun g => pf_ld (hb3.keepQ q6).at ((few_c w6 c u (h3.keepQ (q.tr q6))).use ?_), fun g => ⟨fun e => (by cases e), q6⟩⟩ fun r w' ⟨e, q'⟩ => ⟨e, q.tr q'⟩
  rintro r2 w5 ⟨e2, q5⟩
  exact ⟨fun e => ⟨(e3 g).1, (e3 g).2, e2 e⟩, q6.tr q5⟩

theorem fine3_c (w : World) (a b c : Ap) (s t u : Sl) (h1 : Rd w cb 1 s a.types) (h2 : Rd w cb 1 t b.types) (h3 : Rd w cb 1 u c.types) (ha : s.len ≤ s.cap) (hb : t.len ≤ t.cap) (hc : u.len ≤ u.cap) :
    callC Try.prog 19 #[pfv (pfOf a s), pfv (pfOf b t), pfv (pfOf c u)] (fun (r : Bool) => .bool r) w fun r w' => r = decide (CheckA a = 0 ∧ CheckA b = 0 ∧ CheckA c = 0) ∧ Quiet w w' := by
  refine D19 _ _ _ _ _ _ _ _ _ _ _ _ _ _ _ _ _ _ _ _ _ _ _ _ _ _ _ _ _ _ _ _ _ _ _ _ _ _ _ _ _ _ _ _ _ _ _ _ _ _ _ _ _ _ _ _ _ _ _ _ _ _ _ _ _ _ w _ ?_
  unfold F19
  refine nwL fun b1 w1 hb1 q1 _ _ _ => nwL fun b2 w2 hb2 q2 _ _ _ => nwL fun b3 w3 hb3 q3 _ _ _ => ?_
  have hb1 : IsPf w3 b1 (pfOf a s) := Blk.keepQ hb1 (q2.tr q3)
  have hb2 : IsPf w3 b2 (pfOf b t) := Blk.keepQ hb2 q3
  have hb3 : IsPf w3 b3 (pfOf c u) := hb3
  have q := (q1.tr q2).tr q3
  refine pf_ld hb1.at ((check_c w3 a s (h1.keepQ q) ha).use ?_)
  rintro r1 w4 ⟨rfl, q4⟩
  refine jn_and (fun _ J hJ => pf_ld (hb2.keepQ q4).at ((check_c w4 b t (h2.keepQ (q.tr q4)) hb).use fun r w5 ⟨e, q5⟩ => e ▸ hJ w5 q5)) fun w6 q6 => ?_
  have q36 := q4.tr q6
  refine jn_and (fun _ J hJ => pf_ld (hb3.keepQ q36).at ((check_c w6 c u (h3.keepQ (q.tr q36)) hc).use fun r w5 ⟨e, q5⟩ => e ▸ hJ w5 q5)) fun w8 q8 => ⟨?_, (q.tr q36).tr q8⟩
  rw [Bool.decide_and, Bool.decide_and, Bool.and_assoc]
end Go.Proofs.Ytadlnbdelkbboaa
