import Derived.Test.YtadlnbdelkbboaaPf
namespace Go.Proofs.Ytadlnbdelkbboaa
open Go.Dec Go.RowKit
set_option maxHeartbeats 400000
set_option maxRecDepth 10000

theorem ratMost_c (w : World) (a b : Ap) (s t : Sl) (h : Rd w cb 1 s a.types) (h' : Rd w cb 1 t b.types) (hl : a.types.length ≤ 1000000) (hl' : b.types.length ≤ 1000000) :
    callC Try.prog 13 #[pfv (pfOf a s), pfv (pfOf b t)] (fun (r : Bool) => .bool r) w fun r w' => r = decide (LeA a b) ∧ Quiet w w' := by
  have hsl := h.len
  refine D13 _ _ _ _ _ _ _ _ _ _ _ _ _ _ _ _ _ _ _ _ _ _ _ _ _ _ _ _ _ _ _ _ _ _ _ _ _ _ _ _ _ _ _ _ w _ ?_
  unfold F13
  refine nwL fun b1 w1 hb1 q1 _ _ _ => nwL fun b2 w2 hb2 q2 _ _ _ => ?_
  have hb1 : IsPf w2 b1 (pfOf a s) := Blk.keepQ hb1 q2
  have hb2 : IsPf w2 b2 (pfOf b t) := hb2
  have q02 := q1.tr q2
  refine pf_ld hb1.at ((numbers_c w2 a s).use ?_)
  rintro r25 w3 ⟨FA, oA, fA⟩
  refine pf_ld (hb2.keepQ fA.q).at ((numbers_c w3 b t).use ?_)
  rintro r48 w4 ⟨FB, oB, fB⟩
  have rA := (oA.keepQ fB.q).rd ci1 (by decide)
  have rB := oB.rd ci1 (by decide)
  have lA := rA.len
  rw [numsA_len] at lA
  have q24 := fA.q.tr fB.q
  have q04 := q02.tr q24
  have hA : ∀ w', Quiet w4 w' → AtC w' (Addr.mk b1 0 none) (pf (pfOf a s)) := fun w' q => (hb1.keepQ (q24.tr q)).at
  have hB : ∀ w', Quiet w4 w' → AtC w' (Addr.mk b2 0 none) (pf (pfOf b t)) := fun w' q => (hb2.keepQ (q24.tr q)).at
  have hLe : LeA a b ↔ allR (fun x y => !decide (y < x)) (numsA a) (numsA b) ∧ (∀ t ∈ a.types, t ∈ b.types) ∧ (a.edit = 0 ∨ b.within = 0 ∨ (a.within ≠ 0 ∧ a.within ≤ b.within)) := by
    rw [allR_nums]
    simp only [Bool.not_eq_true', decide_eq_false_iff_not, Int.not_lt, b2i_le]
    unfold LeA
    constructor
    · rintro ⟨⟨y1, y2, y3, y4, y5, y6, y7, y8⟩, ⟨y9, y10, y11⟩, y12, y13⟩
      exact ⟨⟨y1, y2, y9, y3, y10, y11, y4, y5, y6, y7, y8⟩, y13, y12⟩
    · rintro ⟨⟨y1, y2, y9, y3, y10, y11, y4, y5, y6, y7, y8⟩, y13, y12⟩
      exact ⟨⟨y1, y2, y3, y4, y5, y6, y7, y8⟩, ⟨y9, y10, y11⟩, y12, y13⟩
  refine ⟨fun i w' => 0 ≤ i ∧ i ≤ 11 ∧ (∀ k x y, k < i.toNat → (numsA a)[k]? = some x → (numsA b)[k]? = some y → (fun x y => !decide (y < x)) x y = true) ∧ Quiet w4 w', fun i _ => (11 - i).toNat, ⟨by omega, by omega, fun k _ _ hk => absurd hk (by simp), Only.refl _ _⟩, ?_⟩
  rintro i w5 ⟨i0, i1, hno, q5⟩
  refine ⟨fun hi => ?_, fun hi => ?_⟩
  · have hi : i < (r25.len : Int) := of_decide_eq_true hi
    obtain ⟨x, hx⟩ := getq (l := numsA a) i0 (by rw [numsA_len]; omega)
    obtain ⟨y, hy⟩ := getq (l := numsA b) i0 (by rw [numsA_len]; omega)
    refine jn.mk (fun c w' => c = decide (y < x) ∧ Quiet w4 w') ?_ ?_
    · show tk w5 _
      unfold tk
      have qd := q5.tr (Only.drew (fun _ => False) w5)
      exact (rA.keepQ qd).ixx i0 hx fun p hat _ => hat.ld0 rfl ((rB.keepQ qd).ixx i0 hy fun p hat _ => hat.ld0 rfl ⟨rfl, qd⟩)
    rintro c w7 ⟨rfl, q7⟩
    refine ⟨fun g => ⟨(decide_eq_false fun c => ?_).symm, q04.tr q7⟩, fun g => ?_⟩
    · have : (!decide (y < x)) = true := (hLe.1 c).1 i.toNat x y hx hy
      rw [g] at this
      cases this
    · rw [w64 (by omega) (by omega)]
      refine ⟨⟨by omega, by omega, ?_, q7⟩, by (try dsimp only); omega⟩
      rw [toNat_succ i0]
      exact cmp_next hx hy hno (by rw [g]; rfl)
  have hn : allR (fun x y => !decide (y < x)) (numsA a) (numsA b) := fun k x y hx hy => hno k x y (by
    have := (List.getElem?_eq_some_iff.1 hx).1
    rw [numsA_len] at this
    have hi : ¬ i < (r25.len : Int) := of_decide_eq_false hi
    omega) hx hy
  clear hno hi i0 i1
  refine ⟨fun i w' => 0 ≤ i ∧ i ≤ a.types.length ∧ (∀ t ∈ a.types.take i.toNat, t ∈ b.types) ∧ Quiet w4 w', fun i _ => (a.types.length - i).toNat, ⟨by omega, by omega, by simp, q5⟩, ?_⟩
  rintro i w8 ⟨i0, i1, hno, q8⟩
  refine (hA _ q8).ld (j := 12) rfl ⟨fun hi => ?_, fun hi => ?_⟩
  · have hi : i < (s.len : Int) := of_decide_eq_true hi
    obtain ⟨x, hx⟩ := getq (l := a.types) i0 (by omega)
    refine jn.mk (fun c w' => c = !decide (x ∈ b.types) ∧ Quiet w4 w') ?_ ?_
    · show tk w8 _
      unfold tk
      have qd := q8.tr (Only.drew (fun _ => False) w8)
      exact (hB _ qd).ld (j := 12) rfl ((hA _ qd).ld (j := 12) rfl ((h.keepQ (q04.tr qd)).ixx i0 hx fun p hat _ => hat.ld0 rfl (use_same (rhas_c _ t b.types x (h'.keepQ (q04.tr qd)) hl') ⟨(hA _ qd).cj rfl, rfl, qd⟩)))
    rintro c w11 ⟨rfl, q11⟩
    refine ⟨fun g => ⟨(decide_eq_false fun c => nd g (c.2.2.2 x (List.mem_of_getElem? hx))).symm, q04.tr q11⟩, fun g => ?_⟩
    rw [w64 (by omega) (by omega)]
    refine ⟨⟨by omega, by omega, ?_, q11⟩, by (try dsimp only); omega⟩
    rw [toNat_succ i0, take_next hx]
    intro t ht
    rcases List.mem_append.1 ht with e | e
    · exact hno t e
    · rw [List.mem_singleton.1 e]
      exact nt g
  rw [List.take_of_length_le (by
    have hi : ¬ i < (s.len : Int) := of_decide_eq_false hi
    omega)] at hno
  have hfin : decide (LeA a b) = decide (a.edit = 0 ∨ b.within = 0 ∨ (a.within ≠ 0 ∧ a.within ≤ b.within)) := by
    rw [decide_eq_decide, hLe]
    exact ⟨fun c => c.2.2, fun c => ⟨hn, hno, c⟩⟩
  rw [hfin]
  refine (hA _ q8).ld (j := 1) rfl (jp_or (fun _ J hJ => (hB _ q8).ld (j := 2) rfl hJ) ⟨fun g => ⟨?_, q04.tr q8⟩, fun g => (hA _ q8).ld (j := 2) rfl (jp_and (fun _ J hJ => (hA _ q8).ld (j := 2) rfl ((hB _ q8).ld (j := 2) rfl hJ)) ⟨?_, q04.tr q8⟩)⟩)
  · rw [Bool.or_eq_true] at g
    refine (decide_eq_true ?_).symm
    rcases g with g | g
    · exact .inl (of_decide_eq_true g)
    · exact .inr (.inl (of_decide_eq_true g))
  · rw [Bool.or_eq_false_iff] at g
    have g1 : ¬ a.edit = 0 := of_decide_eq_false g.1
    have g2 : ¬ b.within = 0 := of_decide_eq_false g.2
    show (!decide (a.within = 0) && decide (a.within ≤ b.within)) = _
    rw [Bool.eq_iff_iff]
    simp [g1, g2]

/-! ### the numbers of two, mixed -/
def mixR (f : Int → Int → Int) (A B : List Int) (n : Nat) : List Int := (List.range 11).map fun k => if k < n then f (A.getD k 0) (B.getD k 0) else A.getD k 0
theorem mix_len (f : Int → Int → Int) (A B : List Int) (n : Nat) : (mixR f A B n).length = 11 := by simp [mixR]
theorem mix_0 {f : Int → Int → Int} {A B : List Int} (h : A.length = 11) : mixR f A B 0 = A := by
  apply List.ext_getElem
  · rw [mix_len, h]
  · intro k h1 h2
    simp [mixR, List.getD_eq_getElem?_getD, List.getElem?_eq_getElem h2]
theorem mix_set {f : Int → Int → Int} {A B : List Int} {i : Nat} {x y : Int} (hx : (mixR f A B i)[i]? = some x) (hy : B[i]? = some y) (hi : i < 11) : (mixR f A B i).set i (f x y) = mixR f A B (i + 1) := by
  have ex : A.getD i 0 = x := by simpa [mixR, hi] using hx
  have ey : B.getD i 0 = y := by rw [List.getD_eq_getElem?_getD, hy]; rfl
  apply List.ext_getElem
  · rw [List.length_set, mix_len, mix_len]
  · intro k h1 h2
    simp only [mixR, List.getElem_set, List.getElem_map, List.getElem_range]
    by_cases e : i = k
    · subst e
      rw [if_pos rfl, if_pos (by omega), ex, ey]
    · rw [if_neg e]
      by_cases h : k < i
      · rw [if_pos h, if_pos (by omega)]
      · rw [if_neg h, if_neg (by omega)]
def withP (x : Pf) (l0 l1 l2 l3 l4 l5 l6 l7 l8 l9 l10 : Int) : Pf := { x with edit := l0, delete := l1, react := decide (l2 = 1), thread := l3, quote := decide (l4 = 1), mention := decide (l5 = 1), size := l6, parts := l7, files := l8, bytes := l9, level := l10, types := Sl.nil }
theorem with_c (w : World) (x : Pf) (r : Sl) (l0 l1 l2 l3 l4 l5 l6 l7 l8 l9 l10 : Int) (h : Rd w ci 1 r [l0, l1, l2, l3, l4, l5, l6, l7, l8, l9, l10]) : callC Try.prog 33 #[pfv x, r.v] (fun (r : ByteArray × Int × Int × Int × Bool × Int × Bool × Bool × Int × Int × Int × Int × Sl × Int × Int × Int × Int × Bool × Int × Int × Int × Int) => (Value.agg #[(Value.string r.1), (Value.int .i64 r.2.1), (Value.int .i64 r.2.2.1), (Value.int .i64 r.2.2.2.1), (Value.bool r.2.2.2.2.1), (Value.int .i64 r.2.2.2.2.2.1), (Value.bool r.2.2.2.2.2.2.1), (Value.bool r.2.2.2.2.2.2.2.1), (Value.int .i64 r.2.2.2.2.2.2.2.2.1), (Value.int .i64 r.2.2.2.2.2.2.2.2.2.1), (Value.int .i64 r.2.2.2.2.2.2.2.2.2.2.1), (Value.int .i64 r.2.2.2.2.2.2.2.2.2.2.2.1), (Sl.v r.2.2.2.2.2.2.2.2.2.2.2.2.1), (Value.int .i64 r.2.2.2.2.2.2.2.2.2.2.2.2.2.1), (Value.int .i64 r.2.2.2.2.2.2.2.2.2.2.2.2.2.2.1), (Value.int .i64 r.2.2.2.2.2.2.2.2.2.2.2.2.2.2.2.1), (Value.int .i64 r.2.2.2.2.2.2.2.2.2.2.2.2.2.2.2.2.1), (Value.bool r.2.2.2.2.2.2.2.2.2.2.2.2.2.2.2.2.2.1), (Value.int .i64 r.2.2.2.2.2.2.2.2.2.2.2.2.2.2.2.2.2.2.1), (Value.int .i64 r.2.2.2.2.2.2.2.2.2.2.2.2.2.2.2.2.2.2.2.1), (Value.int .i64 r.2.2.2.2.2.2.2.2.2.2.2.2.2.2.2.2.2.2.2.2.1), (Value.int .i64 r.2.2.2.2.2.2.2.2.2.2.2.2.2.2.2.2.2.2.2.2.2)])) w fun r w' => r = pft (withP x l0 l1 l2 l3 l4 l5 l6 l7 l8 l9 l10) ∧ Quiet w w' := by
  refine D33 _ _ _ _ _ _ _ _ _ _ _ _ _ _ _ _ _ _ _ _ _ _ _ w _ ?_
  unfold F33
  refine nwL fun b1 w1 hb1 q1 g1 _ l1' => nwL fun b2 w2 hb2 q2 g2 _ l2' => ?_
  have hb1 : IsPf w1 b1 x := hb1
  have M := (OBPf.start hb1 q1 g1 l1').keepQ q2
  have ne : ∀ {y : Nat}, y = b1 → y = b2 → False := fun e1 e2 => by omega
  refine (h.keepQ M.q).ixx (i := 0) (by decide) rfl fun p hat _ => hat.ld0 rfl (M.st_edit fun w3 M on => ?_)
  replace hb2 := hb2.keep on (fun e => ne e rfl)
  refine (h.keepQ M.q).ixx (i := 1) (by decide) rfl fun p hat _ => hat.ld0 rfl (M.st_delete fun w4 M on => ?_)
  replace hb2 := hb2.keep on (fun e => ne e rfl)
  refine (h.keepQ M.q).ixx (i := 2) (by decide) rfl fun p hat _ => hat.ld0 rfl (M.st_react fun w5 M on => ?_)
  replace hb2 := hb2.keep on (fun e => ne e rfl)
  refine (h.keepQ M.q).ixx (i := 3) (by decide) rfl fun p hat _ => hat.ld0 rfl (M.st_thread fun w6 M on => ?_)
  replace hb2 := hb2.keep on (fun e => ne e rfl)
  refine (h.keepQ M.q).ixx (i := 4) (by decide) rfl fun p hat _ => hat.ld0 rfl (M.st_quote fun w7 M on => ?_)
  replace hb2 := hb2.keep on (fun e => ne e rfl)
  refine (h.keepQ M.q).ixx (i := 5) (by decide) rfl fun p hat _ => hat.ld0 rfl (M.st_mention fun w8 M on => ?_)
  replace hb2 := hb2.keep on (fun e => ne e rfl)
  refine (h.keepQ M.q).ixx (i := 6) (by decide) rfl fun p hat _ => hat.ld0 rfl (M.st_size fun w9 M on => ?_)
  replace hb2 := hb2.keep on (fun e => ne e rfl)
  refine (h.keepQ M.q).ixx (i := 7) (by decide) rfl fun p hat _ => hat.ld0 rfl (M.st_parts fun w10 M on => ?_)
  replace hb2 := hb2.keep on (fun e => ne e rfl)
  refine (h.keepQ M.q).ixx (i := 8) (by decide) rfl fun p hat _ => hat.ld0 rfl (M.st_files fun w11 M on => ?_)
  replace hb2 := hb2.keep on (fun e => ne e rfl)
  refine (h.keepQ M.q).ixx (i := 9) (by decide) rfl fun p hat _ => hat.ld0 rfl (M.st_bytes fun w12 M on => ?_)
  replace hb2 := hb2.keep on (fun e => ne e rfl)
  refine (h.keepQ M.q).ixx (i := 10) (by decide) rfl fun p hat _ => hat.ld0 rfl (M.st_level fun w13 M on => ?_)
  replace hb2 := hb2.keep on (fun e => ne e rfl)
  refine M.st_types fun w14 M on => ?_
  replace hb2 := hb2.keep on (fun e => ne e rfl)
  refine pf_ld M.h.at (pf_st hb2 rfl fun w15 h15 on15 _ => pf_ld h15.at ⟨rfl, M.q.new on15 fun y hy => ?_⟩)
  have := q1.size
  omega

theorem row1 {w : World} {b : Nat} {x : ByteArray} (h : Blk w b 9 #[.string x]) : Rd w cb 1 (⟨some ⟨b, 0, none⟩, 1, 1⟩ : Sl) [x] :=
  (own_row (n := 1) (sz := 1) h rfl (by unfold maxLen; omega)).rd (c := cb) (l := [x]) cb1 (by decide)
theorem min_b (x y : Bool) : decide (min (b2i x) (b2i y) = 1) = (x && y) := by cases x <;> cases y <;> decide
theorem max_b (x y : Bool) : decide (max (b2i x) (b2i y) = 1) = (x || y) := by cases x <;> cases y <;> decide
theorem rmeet_c (w : World) (a b : Ap) (s t : Sl) (h : Rd w cb 1 s a.types) (h' : Rd w cb 1 t b.types) (hl : a.types.length ≤ 1000) (hl' : b.types.length ≤ 1000) :
    callC Try.prog 16 #[pfv (pfOf a s), pfv (pfOf b t)] (fun (r : ByteArray × Int × Int × Int × Bool × Int × Bool × Bool × Int × Int × Int × Int × Sl × Int × Int × Int × Int × Bool × Int × Int × Int × Int) => (Value.agg #[(Value.string r.1), (Value.int .i64 r.2.1), (Value.int .i64 r.2.2.1), (Value.int .i64 r.2.2.2.1), (Value.bool r.2.2.2.2.1), (Value.int .i64 r.2.2.2.2.2.1), (Value.bool r.2.2.2.2.2.2.1), (Value.bool r.2.2.2.2.2.2.2.1), (Value.int .i64 r.2.2.2.2.2.2.2.2.1), (Value.int .i64 r.2.2.2.2.2.2.2.2.2.1), (Value.int .i64 r.2.2.2.2.2.2.2.2.2.2.1), (Value.int .i64 r.2.2.2.2.2.2.2.2.2.2.2.1), (Sl.v r.2.2.2.2.2.2.2.2.2.2.2.2.1), (Value.int .i64 r.2.2.2.2.2.2.2.2.2.2.2.2.2.1), (Value.int .i64 r.2.2.2.2.2.2.2.2.2.2.2.2.2.2.1), (Value.int .i64 r.2.2.2.2.2.2.2.2.2.2.2.2.2.2.2.1), (Value.int .i64 r.2.2.2.2.2.2.2.2.2.2.2.2.2.2.2.2.1), (Value.bool r.2.2.2.2.2.2.2.2.2.2.2.2.2.2.2.2.2.1), (Value.int .i64 r.2.2.2.2.2.2.2.2.2.2.2.2.2.2.2.2.2.2.1), (Value.int .i64 r.2.2.2.2.2.2.2.2.2.2.2.2.2.2.2.2.2.2.2.1), (Value.int .i64 r.2.2.2.2.2.2.2.2.2.2.2.2.2.2.2.2.2.2.2.2.1), (Value.int .i64 r.2.2.2.2.2.2.2.2.2.2.2.2.2.2.2.2.2.2.2.2.2)])) w fun r w' => ∃ x, r = pft x ∧ NewP w w' x (meetA a b) := by
  have hsl := h.len
  have htl := h'.len
  refine D16 _ _ _ _ _ _ _ _ _ _ _ _ _ _ _ _ _ _ _ _ _ _ _ _ _ _ _ _ _ _ _ _ _ _ _ _ _ _ _ _ _ _ _ _ w _ ?_
  unfold F16
  refine nwL fun b1 w1 hb1 q1 _ _ _ => nwL fun b2 w2 hb2 q2 _ _ _ => nwL fun b3 w3 hb3 q3 g3 _ zb3 => ?_
  have hb1 : IsPf w3 b1 (pfOf a s) := Blk.keepQ hb1 (q2.tr q3)
  have hb2 : IsPf w3 b2 (pfOf b t) := Blk.keepQ hb2 q3
  have q03 := (q1.tr q2).tr q3
  have z30 := (q1.tr q2).size
  have hA : ∀ w', Quiet w3 w' → AtC w' (Addr.mk b1 0 none) (pf (pfOf a s)) := fun w' q => (hb1.keepQ q).at
  have hB : ∀ w', Quiet w3 w' → AtC w' (Addr.mk b2 0 none) (pf (pfOf b t)) := fun w' q => (hb2.keepQ q).at
  have hs3 := h.keepQ q03
  have ht3 := h'.keepQ q03
  refine pf_ld hb1.at ((numbers_c w3 a s).use ?_)
  rintro r26 w31 ⟨FA, oA, fA⟩
  refine pf_ld (hB _ fA.q) ((numbers_c w31 b t).use ?_)
  rintro r49 w32 ⟨FB, oB, fB⟩
  have hlA := (oA.rd ci1 (by decide)).len
  rw [numsA_len] at hlA
  refine ⟨fun i w' => 0 ≤ i ∧ i ≤ 11 ∧ ∃ F, OwnF w' F 3 1 r26 ((mixR min (numsA a) (numsA b) i.toNat).flatMap ci) ∧ OwnF w' FB 3 1 r49 ((numsA b).flatMap ci) ∧ Objs w3 w' (two F FB), fun i _ => (11 - i).toNat, ⟨by omega, by omega, FA, by rw [show (0 : Int).toNat = 0 from rfl, mix_0 (by rfl)]; exact oA.keepQ fB.q, oB, (((Objs.start w3).none2).n0 fA).n1 fB⟩, ?_⟩
  rintro i w6 ⟨i0, i1, F, o, oB, O⟩
  refine ⟨fun hi => ?_, fun hi => ?_⟩
  · have hi : i < (r26.len : Int) := of_decide_eq_true hi
    have hi : i < 11 := by omega
    obtain ⟨x, hx⟩ := getq (l := mixR min (numsA a) (numsA b) i.toNat) i0 (by rw [mix_len]; omega)
    obtain ⟨y, hy⟩ := getq (l := numsA b) i0 hi
    have hst := mix_set (f := min) hx hy (by omega)
    refine jn.mk (fun _ w' => ∃ F, OwnF w' F 3 1 r26 ((mixR min (numsA a) (numsA b) (i.toNat + 1)).flatMap ci) ∧ OwnF w' FB 3 1 r49 ((numsA b).flatMap ci) ∧ Objs w3 w' (two F FB)) ?_ ?_
    · show tk w6 _
      unfold tk
      have qd : Quiet w6 w6.drew := Only.drew _ _
      have o := o.keepQ qd
      have oB := oB.keepQ qd
      have O := O.quiet qd
      refine (o.rd ci1 (by decide)).ixx i0 hx fun p hat _ => hat.ld0 rfl ((oB.rd ci1 (by decide)).ixx i0 hy fun p hat _ => hat.ld0 rfl (o.set0 (y := min x y) ci1 i0 hx rfl (by decide) fun w8 o8 on8 _ => ⟨F, ?_, oB.keep on8 O.d10, O.s0 ⟨on8, fun _ => .inl⟩⟩))
      rw [← hst]
      exact o8
    · rintro _ w9 ⟨F, o, oB, O⟩
      rw [w64 (by omega) (by omega)]
      refine ⟨⟨by omega, by omega, F, ?_, oB, O⟩, by (try dsimp only); omega⟩
      rw [toNat_succ i0]
      exact o
  have hi11 : i = 11 := by
    have hi : ¬ i < (r26.len : Int) := of_decide_eq_false hi
    omega
  subst hi11
  have hL := o.rd ci1 (by decide)
  have fq : Quiet w3 w6 := Quiet.ofBelow O.bl
  rw [show (11 : Int).toNat = 11 from rfl, show mixR min (numsA a) (numsA b) 11 = [min a.edit b.edit, min a.delete b.delete, min (b2i a.react) (b2i b.react), min a.thread b.thread, min (b2i a.quote) (b2i b.quote), min (b2i a.mention) (b2i b.mention), min a.size b.size, min a.parts b.parts, min a.files b.files, min a.bytes b.bytes, min a.level b.level] from rfl] at hL
  refine pf_ld (hA _ fq) ((with_c w6 (pfOf a s) r26 _ _ _ _ _ _ _ _ _ _ _ hL).use ?_)
  rintro r83 w12 ⟨rfl, q12⟩
  have q312 := fq.tr q12
  clear o oB O hL hi i0 i1
  have hwp : withP (pfOf a s) (min a.edit b.edit) (min a.delete b.delete) (min (b2i a.react) (b2i b.react)) (min a.thread b.thread) (min (b2i a.quote) (b2i b.quote)) (min (b2i a.mention) (b2i b.mention)) (min a.size b.size) (min a.parts b.parts) (min a.files b.files) (min a.bytes b.bytes) (min a.level b.level) = pfOf (meet0 a b) Sl.nil := by
    unfold withP pfOf meet0
    simp only [min_b]
  refine pf_box (x := withP (pfOf a s) (min a.edit b.edit) (min a.delete b.delete) (min (b2i a.react) (b2i b.react)) (min a.thread b.thread) (min (b2i a.quote) (b2i b.quote)) (min (b2i a.mention) (b2i b.mention)) (min a.size b.size) (min a.parts b.parts) (min a.files b.files) (min a.bytes b.bytes) (min a.level b.level)) fun b84 w120 hb84 q84 g84 l84 => ?_
  rw [hwp] at hb84
  have M := OBPf.start hb84 q84 g84 l84
  refine ⟨fun i w' => 0 ≤ i ∧ i ≤ a.types.length ∧ ∃ F' s', OBPf w12 w' b84 F' (pfOf (meet0 a b) s') ∧ OwnF w' F' 9 1 s' (((a.types.take i.toNat).filter fun t => decide (t ∈ b.types)).flatMap cb), fun i _ => (a.types.length - i).toNat, ⟨by omega, by omega, _, _, M, OwnF.nil _ _ _ _⟩, ?_⟩
  rintro i w13 ⟨i0, i1, F', s', M, o'⟩
  refine (hA _ (q312.tr M.q)).ld (j := 12) rfl ⟨fun hi => ?_, fun hi => ?_⟩
  · have hlt : i < a.types.length := by
      have hi : i < (s.len : Int) := of_decide_eq_true hi
      omega
    obtain ⟨x, hx⟩ := getq i0 hlt
    have hfn := filter_next (fun t => decide (t ∈ b.types)) hx
    have hfl := filter_len a.types (fun t => decide (t ∈ b.types)) i.toNat
    have hol := (o'.rd cb1 (by decide)).len
    refine jn.mk (fun _ w' => ∃ F' s', OBPf w12 w' b84 F' (pfOf (meet0 a b) s') ∧ OwnF w' F' 9 1 s' (((a.types.take (i.toNat + 1)).filter fun t => decide (t ∈ b.types)).flatMap cb)) ?_ ?_
    · rw [hfn]
      refine jn.mk (fun c w' => c = decide (x ∈ b.types) ∧ Quiet w13 w') ?_ ?_
      · show tk w13 _
        unfold tk
        have qd : Quiet w13 w13.drew := Only.drew _ _
        have q3d := q312.tr (M.q.tr qd)
        exact (hB _ q3d).ld (j := 12) rfl ((hA _ q3d).ld (j := 12) rfl ((hs3.keepQ q3d).ixx i0 hx fun p hat _ => hat.ld0 rfl (use_same (rhas_c _ t b.types x (ht3.keepQ q3d) (by omega)) ⟨(hA _ q3d).cj rfl, rfl, qd⟩)))
      rintro c w17 ⟨rfl, q17⟩
      have M := M.keepQ q17
      have o' := o'.keepQ q17
      refine ⟨fun g => ?_, fun g => ⟨F', s', M, ?_⟩⟩
      · refine jn.mk (fun _ w' => ∃ F' s', OBPf w12 w' b84 F' (pfOf (meet0 a b) s') ∧ OwnF w' F' 9 1 s' ((((a.types.take i.toNat).filter (fun t => decide (t ∈ b.types)) ++ [x])).flatMap cb)) ?_ ?_
        · show tk w17 _
          unfold tk
          have qd : Quiet w17 w17.drew := Only.drew _ _
          have M := M.keepQ qd
          have o' := o'.keepQ qd
          refine M.h.at.ld (j := 12) rfl ((hA _ (q312.tr M.q)).ld (j := 12) rfl ((hs3.keepQ (q312.tr M.q)).ixx i0 hx fun p hat _ => hat.ld0 rfl (nwL fun b106 w19 hB106 q19 _ _ _ => ?_)))
          have M := M.keepQ q19
          refine ⟨(hA _ (q312.tr M.q)).cj rfl, M.h.at.cj rfl, (o'.keepQ q19).app ap22S (row1 hB106) cb1 (by decide) cbone (by show s'.len + 1 ≤ maxLen; unfold maxLen; omega) (by show (s'.len + 1) * 16 ≤ _; omega) fun r w20 F2 o2 _ st2 => ?_⟩
          have M := M.own st2
          refine ⟨(hA _ (q312.tr M.q)).cj rfl, M.st_types fun w21 M2 on21 => ⟨F2, r, M2, ?_⟩⟩
          rw [List.flatMap_append]
          exact o2.keep on21 M.O.d01
        · rintro _ w22 hh
          rw [if_pos g]
          exact hh
      · rw [if_neg (by rw [g]; decide), List.append_nil]
        exact o'
    · rintro _ w14 ⟨F2, s2, M2, o2⟩
      rw [w64 (by omega) (by omega)]
      refine ⟨⟨by omega, by omega, F2, s2, M2, ?_⟩, by (try dsimp only); omega⟩
      rw [toNat_succ i0]
      exact o2
  rw [List.take_of_length_le (by
    have hi : ¬ i < (s.len : Int) := of_decide_eq_false hi
    omega)] at o'
  have hf0 : (meet0 a b).types = a.types.filter fun t => decide (t ∈ b.types) := rfl
  have hol := (o'.rd cb1 (by decide)).len
  refine jn.mk (fun _ w' => ∃ F' s', OBPf w12 w' b84 F' (pfOf (meet1 (meet0 a b)) s') ∧ OwnF w' F' 9 1 s' ((meet1 (meet0 a b)).types.flatMap cb)) ?_ ?_
  · refine M.h.at.ld (j := 10) rfl (jp_or (fun _ J hJ => M.h.at.ld (j := 11) rfl hJ) (jp_or (fun _ J hJ => M.h.at.ld (j := 12) rfl hJ) (cnd_c (d := decide ((meet0 a b).files = 0 ∨ (meet0 a b).bytes = 0 ∨ (meet0 a b).types.length = 0)) ?_ ⟨fun g => ?_, fun g => ⟨F', s', ?_, ?_⟩⟩)))
    · rw [Bool.eq_iff_iff]
      simp only [Bool.or_eq_true, decide_eq_true_eq]
      show ((((meet0 a b).files = 0 ∨ (meet0 a b).bytes = 0) ∨ ((s'.len : Int) = 0)) ↔ _)
      rw [hf0]
      omega
    · refine M.st_files fun w54 M _ => M.st_bytes fun w55 M _ => M.st_types fun w56 M _ => ⟨F', Sl.nil, ?_, ?_⟩
      · unfold meet1
        rw [if_pos (of_decide_eq_true g)]
        exact M
      · unfold meet1
        rw [if_pos (of_decide_eq_true g)]
        exact OwnF.nil _ _ _ _
    · unfold meet1
      rw [if_neg (of_decide_eq_false g)]
      exact M
    · unfold meet1
      rw [if_neg (of_decide_eq_false g)]
      exact o'
  clear M o' hol hi i0 i1
  rintro _ w23 ⟨F', s', M, o'⟩
  have hed : (meet1 (meet0 a b)).edit = min a.edit b.edit := by
    unfold meet1
    split <;> rfl
  refine (hA _ (q312.tr M.q)).ld (j := 2) rfl ((hB _ (q312.tr M.q)).ld (j := 2) rfl (M.st_within fun w27 M27 on27 => ?_))
  have o' := o'.keep on27 M.O.d01
  have M := M27
  refine jn.mk (fun _ w' => OBPf w12 w' b84 F' (pfOf { meet1 (meet0 a b) with within := if a.within = 0 then b.within else if b.within = 0 then a.within else min a.within b.within } s') ∧ OwnF w' F' 9 1 s' ((meet1 (meet0 a b)).types.flatMap cb)) ?_ ?_
  · have q := q312.tr M.q
    refine (hA _ q).ld (j := 2) rfl ⟨fun g => (hB _ q).ld (j := 2) rfl (M.st_within fun w29 M2 on2 => ⟨?_, o'.keep on2 M.O.d01⟩), fun g => (hB _ q).ld (j := 2) rfl ⟨fun g2 => (hA _ q).ld (j := 2) rfl (M.st_within fun w29 M2 on2 => ⟨?_, o'.keep on2 M.O.d01⟩), fun g2 => ⟨?_, o'⟩⟩⟩
    · rw [if_pos (show a.within = 0 from of_decide_eq_true g)]
      exact M2
    · rw [if_neg (show ¬ a.within = 0 from of_decide_eq_false g), if_pos (show b.within = 0 from of_decide_eq_true g2)]
      exact M2
    · rw [if_neg (show ¬ a.within = 0 from of_decide_eq_false g), if_neg (show ¬ b.within = 0 from of_decide_eq_false g2)]
      exact M
  clear M o' M27 on27
  rintro _ w28 ⟨M, o'⟩
  refine jn.mk (fun _ w' => OBPf w12 w' b84 F' (pfOf (meetA a b) s') ∧ OwnF w' F' 9 1 s' ((meetA a b).types.flatMap cb)) ?_ ?_
  · refine M.h.at.ld (j := 1) rfl ⟨fun g => M.st_within fun w29 M2 on2 => ?_, fun g => ?_⟩
    · unfold meetA meetW
      rw [if_pos (hed ▸ of_decide_eq_true g)]
      exact ⟨M2, o'.keep on2 M.O.d01⟩
    · unfold meetA meetW
      rw [if_neg (hed ▸ of_decide_eq_false g)]
      exact ⟨M, o'⟩
  clear M o'
  rintro _ w31 ⟨M, o'⟩
  refine pf_ld M.h.at (pf_st (hb3.keepQ (q312.tr M.q)) rfl fun w62 h62 on62 s62 => pf_ld h62.at ?_)
  have zq := (q312.tr M.q).size
  have z12 := q312.size
  refine ⟨_, rfl, s', F', rfl, ?_, ⟨((q03.tr q312).tr M.q).new on62 fun x hx => by omega, fun y hy => ?_⟩⟩
  · exact o'.keep on62 fun y hy e => by
      have := M.O.sep.ge 0 y (by unfold two; simpa using hy)
      omega
  · have h1 := M.O.sep.ge 0 y (by unfold two; simpa using hy)
    have h2 := M.O.sep.lt 0 y (by unfold two; simpa using hy)
    have := q03.size
    omega

theorem rjoin_c (w : World) (a b : Ap) (s t : Sl) (h : Rd w cb 1 s a.types) (h' : Rd w cb 1 t b.types) (hl : a.types.length ≤ 1000) (hl' : b.types.length ≤ 1000) :
    callC Try.prog 18 #[pfv (pfOf a s), pfv (pfOf b t)] (fun (r : ByteArray × Int × Int × Int × Bool × Int × Bool × Bool × Int × Int × Int × Int × Sl × Int × Int × Int × Int × Bool × Int × Int × Int × Int) => (Value.agg #[(Value.string r.1), (Value.int .i64 r.2.1), (Value.int .i64 r.2.2.1), (Value.int .i64 r.2.2.2.1), (Value.bool r.2.2.2.2.1), (Value.int .i64 r.2.2.2.2.2.1), (Value.bool r.2.2.2.2.2.2.1), (Value.bool r.2.2.2.2.2.2.2.1), (Value.int .i64 r.2.2.2.2.2.2.2.2.1), (Value.int .i64 r.2.2.2.2.2.2.2.2.2.1), (Value.int .i64 r.2.2.2.2.2.2.2.2.2.2.1), (Value.int .i64 r.2.2.2.2.2.2.2.2.2.2.2.1), (Sl.v r.2.2.2.2.2.2.2.2.2.2.2.2.1), (Value.int .i64 r.2.2.2.2.2.2.2.2.2.2.2.2.2.1), (Value.int .i64 r.2.2.2.2.2.2.2.2.2.2.2.2.2.2.1), (Value.int .i64 r.2.2.2.2.2.2.2.2.2.2.2.2.2.2.2.1), (Value.int .i64 r.2.2.2.2.2.2.2.2.2.2.2.2.2.2.2.2.1), (Value.bool r.2.2.2.2.2.2.2.2.2.2.2.2.2.2.2.2.2.1), (Value.int .i64 r.2.2.2.2.2.2.2.2.2.2.2.2.2.2.2.2.2.2.1), (Value.int .i64 r.2.2.2.2.2.2.2.2.2.2.2.2.2.2.2.2.2.2.2.1), (Value.int .i64 r.2.2.2.2.2.2.2.2.2.2.2.2.2.2.2.2.2.2.2.2.1), (Value.int .i64 r.2.2.2.2.2.2.2.2.2.2.2.2.2.2.2.2.2.2.2.2.2)])) w fun r w' => ∃ x, r = pft x ∧ NewP w w' x (joinA a b) := by
  have hsl := h.len
  have htl := h'.len
  refine D18 _ _ _ _ _ _ _ _ _ _ _ _ _ _ _ _ _ _ _ _ _ _ _ _ _ _ _ _ _ _ _ _ _ _ _ _ _ _ _ _ _ _ _ _ w _ ?_
  unfold F18
  refine nwL fun b1 w1 hb1 q1 _ _ _ => nwL fun b2 w2 hb2 q2 _ _ _ => nwL fun b3 w3 hb3 q3 g3 _ zb3 => ?_
  have hb1 : IsPf w3 b1 (pfOf a s) := Blk.keepQ hb1 (q2.tr q3)
  have hb2 : IsPf w3 b2 (pfOf b t) := Blk.keepQ hb2 q3
  have q03 := (q1.tr q2).tr q3
  have z30 := (q1.tr q2).size
  have hA : ∀ w', Quiet w3 w' → AtC w' (Addr.mk b1 0 none) (pf (pfOf a s)) := fun w' q => (hb1.keepQ q).at
  have hB : ∀ w', Quiet w3 w' → AtC w' (Addr.mk b2 0 none) (pf (pfOf b t)) := fun w' q => (hb2.keepQ q).at
  have hs3 := h.keepQ q03
  have ht3 := h'.keepQ q03
  refine pf_ld hb1.at ((numbers_c w3 a s).use ?_)
  rintro r26 w31 ⟨FA, oA, fA⟩
  refine pf_ld (hB _ fA.q) ((numbers_c w31 b t).use ?_)
  rintro r49 w32 ⟨FB, oB, fB⟩
  have hlA := (oA.rd ci1 (by decide)).len
  rw [numsA_len] at hlA
  refine ⟨fun i w' => 0 ≤ i ∧ i ≤ 11 ∧ ∃ F, OwnF w' F 3 1 r26 ((mixR max (numsA a) (numsA b) i.toNat).flatMap ci) ∧ OwnF w' FB 3 1 r49 ((numsA b).flatMap ci) ∧ Objs w3 w' (two F FB), fun i _ => (11 - i).toNat, ⟨by omega, by omega, FA, by rw [show (0 : Int).toNat = 0 from rfl, mix_0 (by rfl)]; exact oA.keepQ fB.q, oB, (((Objs.start w3).none2).n0 fA).n1 fB⟩, ?_⟩
  rintro i w6 ⟨i0, i1, F, o, oB, O⟩
  refine ⟨fun hi => ?_, fun hi => ?_⟩
  · have hi : i < (r26.len : Int) := of_decide_eq_true hi
    have hi : i < 11 := by omega
    obtain ⟨x, hx⟩ := getq (l := mixR max (numsA a) (numsA b) i.toNat) i0 (by rw [mix_len]; omega)
    obtain ⟨y, hy⟩ := getq (l := numsA b) i0 hi
    have hst := mix_set (f := max) hx hy (by omega)
    refine jn.mk (fun _ w' => ∃ F, OwnF w' F 3 1 r26 ((mixR max (numsA a) (numsA b) (i.toNat + 1)).flatMap ci) ∧ OwnF w' FB 3 1 r49 ((numsA b).flatMap ci) ∧ Objs w3 w' (two F FB)) ?_ ?_
    · show tk w6 _
      unfold tk
      have qd : Quiet w6 w6.drew := Only.drew _ _
      have o := o.keepQ qd
      have oB := oB.keepQ qd
      have O := O.quiet qd
      refine (o.rd ci1 (by decide)).ixx i0 hx fun p hat _ => hat.ld0 rfl ((oB.rd ci1 (by decide)).ixx i0 hy fun p hat _ => hat.ld0 rfl (o.set0 (y := max x y) ci1 i0 hx rfl (by decide) fun w8 o8 on8 _ => ⟨F, ?_, oB.keep on8 O.d10, O.s0 ⟨on8, fun _ => .inl⟩⟩))
      rw [← hst]
      exact o8
    · rintro _ w9 ⟨F, o, oB, O⟩
      rw [w64 (by omega) (by omega)]
      refine ⟨⟨by omega, by omega, F, ?_, oB, O⟩, by (try dsimp only); omega⟩
      rw [toNat_succ i0]
      exact o
  have hi11 : i = 11 := by
    have hi : ¬ i < (r26.len : Int) := of_decide_eq_false hi
    omega
  subst hi11
  have hL := o.rd ci1 (by decide)
  have fq : Quiet w3 w6 := Quiet.ofBelow O.bl
  rw [show (11 : Int).toNat = 11 from rfl, show mixR max (numsA a) (numsA b) 11 = [max a.edit b.edit, max a.delete b.delete, max (b2i a.react) (b2i b.react), max a.thread b.thread, max (b2i a.quote) (b2i b.quote), max (b2i a.mention) (b2i b.mention), max a.size b.size, max a.parts b.parts, max a.files b.files, max a.bytes b.bytes, max a.level b.level] from rfl] at hL
  refine pf_ld (hA _ fq) ((with_c w6 (pfOf a s) r26 _ _ _ _ _ _ _ _ _ _ _ hL).use ?_)
  rintro r83 w12 ⟨rfl, q12⟩
  have q312 := fq.tr q12
  clear o oB O hL hi i0 i1
  have hwp : withP (pfOf a s) (max a.edit b.edit) (max a.delete b.delete) (max (b2i a.react) (b2i b.react)) (max a.thread b.thread) (max (b2i a.quote) (b2i b.quote)) (max (b2i a.mention) (b2i b.mention)) (max a.size b.size) (max a.parts b.parts) (max a.files b.files) (max a.bytes b.bytes) (max a.level b.level) = pfOf { joinA a b with within := a.within } Sl.nil := by
    unfold withP pfOf joinA
    simp only [max_b]
  refine pf_box (x := withP (pfOf a s) (max a.edit b.edit) (max a.delete b.delete) (max (b2i a.react) (b2i b.react)) (max a.thread b.thread) (max (b2i a.quote) (b2i b.quote)) (max (b2i a.mention) (b2i b.mention)) (max a.size b.size) (max a.parts b.parts) (max a.files b.files) (max a.bytes b.bytes) (max a.level b.level)) fun b84 w120 hb84 q84 g84 l84 => ?_
  rw [hwp] at hb84
  have M := OBPf.start hb84 q84 g84 l84
  refine nwL fun b86 w13 hB86 q13 g13 _ l13 => ?_
  have M := M.keepQ q13
  have q3n := q312.tr M.q
  refine (hA _ q3n).ld (j := 12) rfl ((empty_own hB86).app ap22S (hs3.keepQ q3n) cb1 (by decide) cbone (by simp; unfold maxLen; omega) (by simp; omega) fun r88 w14 F0 o0 e0 st0 => ?_)
  have f0 : Fresh w120 w14 F0 := Fresh.stp ⟨q13, fun x hx => by subst hx; exact ⟨g13, l13⟩⟩ st0
  have M := OBPf.start hb84 q84 g84 l84
  rw [List.nil_append] at o0
  have M0 : OBPf w12 w14 b84 F0 _ := ⟨M.h.keepQ f0.q, M.O.n0 f0⟩
  refine M0.st_types fun w15 M on15 => ?_
  replace o0 := o0.keep on15 M0.O.d01
  clear M0
  refine ⟨fun i w' => 0 ≤ i ∧ i ≤ b.types.length ∧ ∃ F' s', OBPf w12 w' b84 F' (pfOf { joinA a b with within := a.within } s') ∧ OwnF w' F' 9 1 s' ((a.types ++ (b.types.take i.toNat).filter fun t => !decide (t ∈ a.types)).flatMap cb), fun i _ => (b.types.length - i).toNat, ⟨by omega, by omega, _, _, M, by simpa using o0⟩, ?_⟩
  rintro i w13 ⟨i0, i1, F', s', M, o'⟩
  refine (hB _ (q312.tr M.q)).ld (j := 12) rfl ⟨fun hi => ?_, fun hi => ?_⟩
  · have hlt : i < b.types.length := by
      have hi : i < (t.len : Int) := of_decide_eq_true hi
      omega
    obtain ⟨x, hx⟩ := getq i0 hlt
    have hfn := filter_next (fun t => !decide (t ∈ a.types)) hx
    have hfl := filter_len b.types (fun t => !decide (t ∈ a.types)) i.toNat
    have hol := (o'.rd cb1 (by decide)).len
    rw [List.length_append] at hol
    refine jn.mk (fun _ w' => ∃ F' s', OBPf w12 w' b84 F' (pfOf { joinA a b with within := a.within } s') ∧ OwnF w' F' 9 1 s' ((a.types ++ (b.types.take (i.toNat + 1)).filter fun t => !decide (t ∈ a.types)).flatMap cb)) ?_ ?_
    · rw [hfn]
      refine jn.mk (fun c w' => c = !decide (x ∈ a.types) ∧ Quiet w13 w') ?_ ?_
      · show tk w13 _
        unfold tk
        have qd : Quiet w13 w13.drew := Only.drew _ _
        have q3d := q312.tr (M.q.tr qd)
        exact (hA _ q3d).ld (j := 12) rfl ((hB _ q3d).ld (j := 12) rfl ((ht3.keepQ q3d).ixx i0 hx fun p hat _ => hat.ld0 rfl (use_same (rhas_c _ s a.types x (hs3.keepQ q3d) (by omega)) ⟨(hB _ q3d).cj rfl, rfl, qd⟩)))
      rintro c w17 ⟨rfl, q17⟩
      have M := M.keepQ q17
      have o' := o'.keepQ q17
      refine ⟨fun g => ?_, fun g => ⟨F', s', M, ?_⟩⟩
      · refine jn.mk (fun _ w' => ∃ F' s', OBPf w12 w' b84 F' (pfOf { joinA a b with within := a.within } s') ∧ OwnF w' F' 9 1 s' ((a.types ++ ((b.types.take i.toNat).filter (fun t => !decide (t ∈ a.types)) ++ [x])).flatMap cb)) ?_ ?_
        · show tk w17 _
          unfold tk
          have qd : Quiet w17 w17.drew := Only.drew _ _
          have M := M.keepQ qd
          have o' := o'.keepQ qd
          refine M.h.at.ld (j := 12) rfl ((hB _ (q312.tr M.q)).ld (j := 12) rfl ((ht3.keepQ (q312.tr M.q)).ixx i0 hx fun p hat _ => hat.ld0 rfl (nwL fun b106 w19 hB106 q19 _ _ _ => ?_)))
          have M := M.keepQ q19
          refine ⟨(hB _ (q312.tr M.q)).cj rfl, M.h.at.cj rfl, (o'.keepQ q19).app ap22S (row1 hB106) cb1 (by decide) cbone (by show s'.len + 1 ≤ maxLen; unfold maxLen; omega) (by show (s'.len + 1) * 16 ≤ _; omega) fun r w20 F2 o2 _ st2 => ?_⟩
          have M := M.own st2
          refine ⟨(hB _ (q312.tr M.q)).cj rfl, M.st_types fun w21 M2 on21 => ⟨F2, r, M2, ?_⟩⟩
          rw [← List.append_assoc, List.flatMap_append]
          exact o2.keep on21 M.O.d01
        · rintro _ w22 hh
          rw [if_pos g]
          exact hh
      · rw [if_neg (by rw [g]; decide), List.append_nil]
        exact o'
    · rintro _ w14 ⟨F2, s2, M2, o2⟩
      rw [w64 (by omega) (by omega)]
      refine ⟨⟨by omega, by omega, F2, s2, M2, ?_⟩, by (try dsimp only); omega⟩
      rw [toNat_succ i0]
      exact o2
  rw [List.take_of_length_le (by
    have hi : ¬ i < (t.len : Int) := of_decide_eq_false hi
    omega)] at o'
  refine M.st_within fun w26 M26 on26 => ?_
  have o' := o'.keep on26 M.O.d01
  have M := M26
  refine jn.mk (fun _ w' => OBPf w12 w' b84 F' (pfOf { joinA a b with within := if a.edit = 2 ∧ ¬ b.edit = 2 then a.within else 0 } s') ∧ OwnF w' F' 9 1 s' ((joinA a b).types.flatMap cb)) ?_ ?_
  · have q := q312.tr M.q
    refine (hA _ q).ld (j := 1) rfl (jp_and (fun _ J hJ => (hB _ q).ld (j := 1) rfl hJ) (cnd_c (d := decide (a.edit = 2 ∧ ¬ b.edit = 2)) (by rw [Bool.decide_and, decide_not]; rfl) ⟨fun g => (hA _ q).ld (j := 2) rfl (M.st_within fun w29 M2 on2 => ⟨?_, o'.keep on2 M.O.d01⟩), fun g => ⟨?_, o'⟩⟩))
    · rw [if_pos (of_decide_eq_true g)]
      exact M2
    · rw [if_neg (of_decide_eq_false g)]
      exact M
  clear M o' M26 on26
  rintro _ w27 ⟨M, o'⟩
  refine jn.mk (fun _ w' => OBPf w12 w' b84 F' (pfOf { joinA a b with within := if ¬ a.edit = 2 ∧ b.edit = 2 then b.within else if a.edit = 2 ∧ ¬ b.edit = 2 then a.within else 0 } s') ∧ OwnF w' F' 9 1 s' ((joinA a b).types.flatMap cb)) ?_ ?_
  · have q := q312.tr M.q
    refine (hA _ q).ld (j := 1) rfl (jp_and (fun _ J hJ => (hB _ q).ld (j := 1) rfl hJ) (cnd_c (d := decide (¬ a.edit = 2 ∧ b.edit = 2)) (by rw [Bool.decide_and, decide_not]; rfl) ⟨fun g => (hB _ q).ld (j := 2) rfl (M.st_within fun w29 M2 on2 => ⟨?_, o'.keep on2 M.O.d01⟩), fun g => ⟨?_, o'⟩⟩))
    · rw [if_pos (of_decide_eq_true g)]
      exact M2
    · rw [if_neg (of_decide_eq_false g)]
      exact M
  clear M o'
  rintro _ w29 ⟨M, o'⟩
  refine jn.mk (fun _ w' => OBPf w12 w' b84 F' (pfOf (joinA a b) s') ∧ OwnF w' F' 9 1 s' ((joinA a b).types.flatMap cb)) ?_ ?_
  · have q := q312.tr M.q
    have hlong : longA a b = if ((a.edit = 2 ∧ b.edit = 2) ∧ ¬ a.within = 0) ∧ ¬ b.within = 0 then max a.within b.within else if ¬ a.edit = 2 ∧ b.edit = 2 then b.within else if a.edit = 2 ∧ ¬ b.edit = 2 then a.within else 0 := by
      unfold longA
      by_cases h1 : a.edit = 2 <;> by_cases h2 : b.edit = 2 <;> by_cases h3 : a.within = 0 <;> by_cases h4 : b.within = 0 <;> simp [h1, h2, h3, h4]
    refine (hA _ q).ld (j := 1) rfl (jp_and (fun _ J hJ => (hB _ q).ld (j := 1) rfl hJ) (jp_and (fun _ J hJ => (hA _ q).ld (j := 2) rfl hJ) (jp_and (fun _ J hJ => (hB _ q).ld (j := 2) rfl hJ) (cnd_c (d := decide (((a.edit = 2 ∧ b.edit = 2) ∧ ¬ a.within = 0) ∧ ¬ b.within = 0)) (by rw [Bool.decide_and, Bool.decide_and, Bool.decide_and, decide_not, decide_not]; rfl) ⟨fun g => (hA _ q).ld (j := 2) rfl ((hB _ q).ld (j := 2) rfl (M.st_within fun w29 M2 on2 => ⟨?_, o'.keep on2 M.O.d01⟩)), fun g => ⟨?_, o'⟩⟩))))
    · have e : longA a b = max a.within b.within := by rw [hlong, if_pos (of_decide_eq_true g)]
      have e2 : joinA a b = { joinA a b with within := max a.within b.within } := by rw [← e]; rfl
      rw [e2]
      exact M2
    · have e : longA a b = if ¬ a.edit = 2 ∧ b.edit = 2 then b.within else if a.edit = 2 ∧ ¬ b.edit = 2 then a.within else 0 := by rw [hlong, if_neg (of_decide_eq_false g)]
      have e2 : joinA a b = { joinA a b with within := if ¬ a.edit = 2 ∧ b.edit = 2 then b.within else if a.edit = 2 ∧ ¬ b.edit = 2 then a.within else 0 } := by rw [← e]; rfl
      rw [e2]
      exact M
  clear M o'
  rintro _ w31 ⟨M, o'⟩
  refine pf_ld M.h.at (pf_st (hb3.keepQ (q312.tr M.q)) rfl fun w62 h62 on62 s62 => pf_ld h62.at ?_)
  have zq := (q312.tr M.q).size
  have z12 := q312.size
  refine ⟨_, rfl, s', F', rfl, ?_, ⟨((q03.tr q312).tr M.q).new on62 fun x hx => by omega, fun y hy => ?_⟩⟩
  · exact o'.keep on62 fun y hy e => by
      have := M.O.sep.ge 0 y (by unfold two; simpa using hy)
      omega
  · have h1 := M.O.sep.ge 0 y (by unfold two; simpa using hy)
    have h2 := M.O.sep.lt 0 y (by unfold two; simpa using hy)
    have := q03.size
    omega

end Go.Proofs.Ytadlnbdelkbboaa
