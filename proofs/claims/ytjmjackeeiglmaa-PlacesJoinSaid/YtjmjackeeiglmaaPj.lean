import Derived.Test.YtjmjackeeiglmaaPs
import Derived.Test.YtjmjackeeiglmaaMore
namespace Go.Proofs.Ytjmjackeeiglmaa
open Go.Dec Go.RowKit
set_option maxHeartbeats 400000

theorem fl_eq {A B : List Bool} (hl : A.length = B.length) (h : ∀ i : Nat, i < A.length → ((i : Int) ∈ idx 0 A ↔ (i : Int) ∈ idx 0 B)) : A = B := by
  apply List.ext_getElem hl
  intro i h1 h2
  have := h i h1
  rw [mem_idx, mem_idx, Int.sub_zero, Int.toNat_natCast, List.getElem?_eq_getElem h1, List.getElem?_eq_getElem h2] at this
  simp only [Option.some.injEq] at this
  cases ha : A[i] <;> cases hb : B[i] <;> simp_all
theorem reach_join {a b : List Int} {l : List Pl} (hR : RtP l) : fl (a ++ b) l = marks (idx 0 (fl a l) ++ idx 0 (fl b l)) l.length := by
  have key : ∀ (n i : Nat), i < n → i < l.length → ((i : Int) ∈ idx 0 (fl (a ++ b) l) ↔ ((i : Int) ∈ idx 0 (fl a l) ∨ (i : Int) ∈ idx 0 (fl b l))) := by
    intro n
    induction n with
    | zero => intro i h; omega
    | succ n ih =>
      intro i hi hl
      have hp : l[i]? = some l[i] := List.getElem?_eq_getElem hl
      rw [reach_iff hR hp, reach_iff hR hp, reach_iff hR hp, List.mem_append]
      have ihf : ∀ f ∈ l[i].frm, (f ∈ idx 0 (fl (a ++ b) l) ↔ (f ∈ idx 0 (fl a l) ∨ f ∈ idx 0 (fl b l))) := fun f hf => by
        obtain ⟨f0, f1⟩ := (hR.ok i _ hp).mem hf
        have := ih f.toNat (by omega) (by omega)
        rwa [show ((f.toNat : Nat) : Int) = f by omega] at this
      constructor
      · rintro ((e | e) | ⟨f, hf, hg⟩)
        · exact .inl (.inl e)
        · exact .inr (.inl e)
        · rcases (ihf f hf).1 hg with e | e
          · exact .inl (.inr ⟨f, hf, e⟩)
          · exact .inr (.inr ⟨f, hf, e⟩)
      · rintro ((e | ⟨f, hf, e⟩) | (e | ⟨f, hf, e⟩))
        · exact .inl (.inl e)
        · exact .inr ⟨f, hf, (ihf f hf).2 (.inl e)⟩
        · exact .inl (.inr e)
        · exact .inr ⟨f, hf, (ihf f hf).2 (.inr e)⟩
  refine fl_eq (by rw [fl_len, marks_len]) fun i hi => ?_
  rw [fl_len] at hi
  rw [key (i + 1) i (by omega) hi, mem_marks, List.mem_append]
  exact ⟨fun e => ⟨⟨by omega, by omega⟩, e⟩, fun e => e.2⟩
theorem reach_again {r : List Int} {l : List Pl} (hR : RtP l) : fl (idx 0 (fl r l)) l = fl r l := by
  have key : ∀ (n i : Nat), i < n → i < l.length → ((i : Int) ∈ idx 0 (fl (idx 0 (fl r l)) l) ↔ (i : Int) ∈ idx 0 (fl r l)) := by
    intro n
    induction n with
    | zero => intro i h; omega
    | succ n ih =>
      intro i hi hl
      have hp : l[i]? = some l[i] := List.getElem?_eq_getElem hl
      rw [reach_iff (roots := idx 0 (fl r l)) hR hp]
      refine ⟨fun e => ?_, fun e => .inl e⟩
      rcases e with e | ⟨f, hf, hg⟩
      · exact e
      · obtain ⟨f0, f1⟩ := (hR.ok i _ hp).mem hf
        have := ih f.toNat (by omega) (by omega)
        rw [show ((f.toNat : Nat) : Int) = f by omega] at this
        exact (reach_iff hR hp).2 (.inr ⟨f, hf, this.1 hg⟩)
  exact fl_eq (by rw [fl_len, fl_len]) fun i hi => key (i + 1) i (by omega) (by rw [fl_len] at hi; exact hi)
theorem marks_twice {r : List Int} {l : List Pl} : marks (idx 0 (fl r l) ++ idx 0 (fl r l)) l.length = fl r l := by
  refine fl_eq (by rw [fl_len, marks_len]) fun i hi => ?_
  rw [mem_marks, List.mem_append, or_self]
  exact ⟨fun e => e.2, fun e => ⟨reach_lt e, e⟩⟩
theorem sum_take_le : ∀ {L : List Int} (_ : ∀ x ∈ L, 0 ≤ x) (k : Nat), 0 ≤ (L.take k).sum ∧ (L.take k).sum ≤ L.sum
  | [], _, k => by simp
  | x :: L, h, 0 => by
    have := sum_take_le (L := L) (fun y hy => h y (List.mem_cons_of_mem _ hy)) L.length
    rw [List.take_length] at this
    have := h x List.mem_cons_self
    simp
    omega
  | x :: L, h, k + 1 => by
    have := sum_take_le (L := L) (fun y hy => h y (List.mem_cons_of_mem _ hy)) k
    have := h x List.mem_cons_self
    simp
    omega
theorem cnt_nonneg {l : List Pl} {xs : List Int} : ∀ x ∈ cnt l xs, 0 ≤ x := fun x hx => by
  obtain ⟨c, _, rfl⟩ := List.mem_map.1 hx
  omega
theorem cnt_sum {l : List Pl} : ∀ {xs : List Int} (_ : ∀ x ∈ xs, 0 ≤ kindOf l x ∧ kindOf l x < 8), (cnt l xs).sum = xs.length
  | [], _ => by rw [cnt_nil]; rfl
  | x :: xs, h => by
    have ih := cnt_sum (xs := xs) fun y hy => h y (List.mem_cons_of_mem _ hy)
    obtain ⟨h0, h1⟩ := h x List.mem_cons_self
    simp only [cnt, List.range, List.range.loop, List.map_cons, List.map_nil, List.sum_cons, List.sum_nil] at ih ⊢
    simp only [List.filter_cons, List.length_cons]
    simp at ih
    have : kindOf l x = 0 ∨ kindOf l x = 1 ∨ kindOf l x = 2 ∨ kindOf l x = 3 ∨ kindOf l x = 4 ∨ kindOf l x = 5 ∨ kindOf l x = 6 ∨ kindOf l x = 7 := by omega
    rcases this with e | e | e | e | e | e | e | e <;> rw [e] <;> simp <;> omega

theorem joins (W : World) (s : Sl) (l : List Pl) (h : RdP W s l) (hl : l.length ≤ maxLen) (hfr : ∀ p ∈ l, p.frm.length ≤ maxLen)
    (t : Sl) (a : List Int) (ha : Rd W ci 1 t a) (_ : ∀ ad, t.a = some ad → 0 < a.length → ad.block < W.heap.size) (_ : a.length ≤ maxLen)
    (u : Sl) (b : List Int) (hb : Rd W ci 1 u b) (_ : ∀ ad, u.a = some ad → 0 < b.length → ad.block < W.heap.size) (_ : b.length ≤ maxLen) :
    callC Try.prog 6 #[s.v, t.v, u.v] (fun (r : Bool) => .bool r) W fun r w' => r = true ∧ Below W.heap.size W w' := by
  have hsl := h.len
  have htl := ha.len
  have hul := hb.len
  have hl' : l.length ≤ 9223372036854775807 := by unfold maxLen at hl; omega
  have hfr' : ∀ p ∈ l, p.frm.length ≤ 9223372036854775807 := fun p hp => by have := hfr p hp; unfold maxLen at this; omega
  refine D6 _ _ _ W _ ?_
  unfold F6
  refine (small_c W).use ?_
  rintro r w1 ⟨rfl, q1⟩
  refine (few_c w1 s l 30 (h.keepQ q1) (by decide) (by decide) hl').use ?_
  rintro r w2 ⟨hfew, rfl⟩
  refine jn.mk (fun c w' => (c = false → ((l.length : Int) ≤ 30 ∧ ∀ p ∈ l, p.frm.length ≤ 40) ∧ a.length ≤ 20 ∧ b.length ≤ 20 ∧ RtP l) ∧ Quiet w1 w') ⟨fun _ => ⟨fun e => (by cases e), Only.refl _ _⟩, fun hc => (right_c w1 s l (h.keepQ q1) hl' hfr').use ?_⟩ ?_
  · rintro a w3 ⟨ha, q3⟩
    rw [htl, hul] at hc
    simp at hc
    exact ⟨fun e => ⟨hfew hc.1.1, by omega, by omega, ha.1 (by simpa using e)⟩, q3⟩
  rintro c w4 ⟨hc4, q4⟩
  have qa := q1.tr q4
  refine ⟨fun _ => ⟨rfl, bq qa⟩, fun hc => ?_⟩
  obtain ⟨⟨h30, h40⟩, ha20, hb20, hR⟩ := hc4 hc
  have args : ∀ {w' : World} {t' : Sl} {m' : List Int}, Quiet W w' → Rd w' ci 1 t' m' → m'.length ≤ 1000000 → Args w' s l t' m' := fun q hr hk => ⟨h.keepQ q, hr, hl', fun p hp => by have := h40 p hp; omega, hk⟩
  have rl : ∀ r, (idx 0 (fl r l)).length ≤ 30 := fun r => by
    have := idx_len 0 (fl r l)
    rw [fl_len] at this
    omega
  have rP : ∀ r, reachP r l = idx 0 (fl r l) := fun r => by unfold reachP; rw [if_pos hR]
  refine (reach_c w4 s t l a (args qa (ha.keepQ qa) (by omega))).use ?_
  rintro r12 w5 ⟨F12, o12, f12⟩
  have q5 := qa.tr f12.q
  refine (reach_c w5 s u l b (args q5 (hb.keepQ q5) (by omega))).use ?_
  rintro r13 w6 ⟨F13, o13, f13⟩
  have q6 := q5.tr f13.q
  rw [rP] at o12 o13
  have hX := (o12.rd ci1 (by decide)).keepQ f13.q
  have hY := o13.rd ci1 (by decide)
  refine rn_copy ap23 (ha.keepQ q6) ci1 (by decide) (fun _ => rfl) (by unfold maxLen; omega) (by omega) fun r15 w8 F15 o15 l15 f15 => ?_
  refine o15.app ap23 (hb.keepQ (q6.tr f15.q)) ci1 (by decide) (fun _ => rfl) (by unfold maxLen; omega) (by omega) fun r16 w9 F16 o16 l16 st16 => ?_
  have f16 := f15.stp st16
  rw [← List.flatMap_append] at o16
  have q9 := q6.tr f16.q
  refine (reach_c w9 s r16 l (a ++ b) (args q9 (o16.rd ci1 (by decide)) (by rw [List.length_append]; omega))).use ?_
  rintro r17 w10 ⟨F17, o17, f17⟩
  have q10 := q9.tr f17.q
  rw [rP] at o17
  have qX : Quiet w6 w10 := f16.q.tr f17.q
  have hX10 := hX.keepQ qX
  have hY10 := hY.keepQ qX
  have hBoth := o17.rd ci1 (by decide)
  have ej := reach_join (a := a) (b := b) hR
  have lX := rl a
  have lY := rl b
  have lB := rl (a ++ b)
  have hmw := marks_len (idx 0 (fl a l) ++ idx 0 (fl b l)) l.length
  have hgw : ∀ i : Nat, i < l.length → (marks (idx 0 (fl a l) ++ idx 0 (fl b l)) l.length)[i]? = some (decide ((i : Int) ∈ idx 0 (fl a l)) || decide ((i : Int) ∈ idx 0 (fl b l))) := fun i hi => by
    rw [marks_get hi]
    simp [List.mem_append, Bool.decide_or]
  refine ⟨fun (c : Sl × Int) w' => 0 ≤ c.2 ∧ c.2 ≤ l.length ∧ ∃ F, OwnF w' F 3 1 c.1 ((idx 0 ((marks (idx 0 (fl a l) ++ idx 0 (fl b l)) l.length).take c.2.toNat)).flatMap ci) ∧ Fresh w10 w' F, fun c _ => (l.length - c.2).toNat, ⟨by simp, by simp, _, OwnF.nil _ _ _ _, Fresh.none w10⟩, ?_⟩
  rintro ⟨out, i⟩ w11 ⟨i0, i1, F, ho, hf⟩
  dsimp only at i0 i1 ho ⊢
  refine ⟨fun hi => ?_, fun hi => ?_⟩
  · have hlt : i < l.length := by simpa [hsl] using hi
    have hg := hgw i.toNat (by omega)
    rw [show ((i.toNat : Nat) : Int) = i by omega] at hg
    have hil := idx_len 0 ((marks (idx 0 (fl a l) ++ idx 0 (fl b l)) l.length).take i.toNat)
    rw [List.length_take, hmw] at hil
    have hol := (ho.rd ci1 (by decide)).len
    refine jn.mk (fun (c : Sl) w' => ∃ F, OwnF w' F 3 1 c ((idx 0 ((marks (idx 0 (fl a l) ++ idx 0 (fl b l)) l.length).take (i.toNat + 1))).flatMap ci) ∧ Fresh w10 w' F) ?_ ?_
    · refine (has_c w11 r12 _ i (hX10.keepQ hf.q) (by omega)).use ?_
      rintro r22 w13 ⟨rfl, rfl⟩
      refine jn.mk (fun c w' => c = (decide (i ∈ idx 0 (fl a l)) || decide (i ∈ idx 0 (fl b l))) ∧ w11 = w') ⟨fun hc => ⟨by rw [hc]; rfl, rfl⟩, fun hc => (has_c w11 r13 _ i (hY10.keepQ hf.q) (by omega)).use ?_⟩ ?_
      · rintro r w14 ⟨rfl, rfl⟩
        exact ⟨by rw [hc]; rfl, rfl⟩
      rintro c w15 ⟨rfl, rfl⟩
      rw [take_next hg, idx_snoc]
      have hlen : ((marks (idx 0 (fl a l) ++ idx 0 (fl b l)) l.length).take i.toNat).length = i.toNat := by rw [List.length_take]; omega
      rw [hlen]
      refine ⟨fun hc => ?_, fun hc => ?_⟩
      · rw [if_pos hc, show (0 : Int) + (i.toNat : Int) = i by omega]
        refine OwnF.push ap23 ho rfl rfl (by unfold maxLen; omega) (by omega) fun r w4 F' ho' _ st' => ⟨F', ?_, hf.stp st'⟩
        simpa [ci] using ho'
      · rw [if_neg (by rw [hc]; decide)]
        exact ⟨F, by simpa using ho, hf⟩
    · rintro c w2 ⟨F', h1, h2⟩
      rw [w64 (by omega) (by omega)]
      exact ⟨⟨by (try dsimp only); omega, by (try dsimp only); omega, F', by rw [show (c, i + 1).2.toNat = i.toNat + 1 by (try dsimp only); omega]; exact h1, h2⟩, by (try dsimp only); omega⟩
  have hge : l.length ≤ i.toNat := by simp [hsl] at hi; omega
  rw [List.take_of_length_le (by rw [hmw]; exact hge), ← ej] at ho
  have hB11 := hBoth.keepQ hf.q
  refine rn_copy ap23 hB11 ci1 (by decide) (fun _ => rfl) (by unfold maxLen; omega) (by omega) fun r31 w19 F31 o31 l31 f31 => ?_
  refine o31.app ap23 (hB11.keepQ f31.q) ci1 (by decide) (fun _ => rfl) (by unfold maxLen; omega) (by omega) fun r32 w20 F32 o32 l32 st32 => ?_
  have f32 := f31.stp st32
  rw [← List.flatMap_append] at o32
  have q11 := q10.tr hf.q
  have q20 := q11.tr f32.q
  refine (kinds_c w20 s r32 l _ (args q20 (o32.rd ci1 (by decide)) (by rw [List.length_append]; omega))).use ?_
  rintro r33 w21 ⟨F33, o33, f33⟩
  unfold kindsP at o33
  rw [if_pos hR, marks_twice] at o33
  have hK := o33.rd ci1 (by decide)
  have hKl := hK.len
  rw [cnt_len] at hKl
  have hnn : ∀ x ∈ cnt l (idx 0 (fl (a ++ b) l)), 0 ≤ x := cnt_nonneg
  have hsum : (cnt l (idx 0 (fl (a ++ b) l))).sum = ((idx 0 (fl (a ++ b) l)).length : Int) := cnt_sum fun x hx => by
    obtain ⟨x0, x1⟩ := reach_lt hx
    obtain ⟨p, hp⟩ := getq (l := l) x0 x1
    have hO := hR.ok _ _ hp
    have : kindOf l x = p.kind := by simp [kindOf, hp]
    rw [this]
    exact ⟨hO.k0, hO.k1⟩
  have hcl := cnt_len l (idx 0 (fl (a ++ b) l))
  have q21 := q20.tr f33.q
  generalize cnt l (idx 0 (fl (a ++ b) l)) = C at *
  refine ⟨fun (c : Int × Int) w' => 0 ≤ c.2 ∧ c.2 ≤ C.length ∧ c.1 = (C.take c.2.toNat).sum ∧ w21 = w', fun c _ => (C.length - c.2).toNat, ⟨by simp, by simp, by simp, rfl⟩, ?_⟩
  rintro ⟨sum, j⟩ w22 ⟨j0, j1, hs, rfl⟩
  dsimp only at j0 j1 hs ⊢
  refine ⟨fun hj => ?_, fun hj => ?_⟩
  · have hlt : j < C.length := by rw [hKl] at hj; simp at hj; omega
    obtain ⟨x, hx⟩ := getq j0 hlt
    refine hK.ix j0 hlt fun p y hy hat _ => hat.ld0 rfl ?_
    rw [hx] at hy
    injection hy with hy
    subst hy
    have s1 := sum_take_le hnn (j.toNat + 1)
    have s2 : (C.take (j.toNat + 1)).sum = sum + x := by rw [take_next hx, List.sum_append, hs]; simp
    rw [w64 (x := sum + x) (by omega) (by omega), w64 (x := j + 1) (by omega) (by omega)]
    refine ⟨⟨by (try dsimp only); omega, by (try dsimp only); omega, ?_, rfl⟩, by (try dsimp only); omega⟩
    rw [show (sum + x, j + 1).2.toNat = j.toNat + 1 by (try dsimp only); omega, s2]
  have hge2 : C.length ≤ j.toNat := by rw [hKl] at hj; simp at hj; omega
  rw [List.take_of_length_le hge2, hsum] at hs
  have hB21 := (hB11.keepQ f32.q).keepQ f33.q
  have hW21 := ((ho.rd ci1 (by decide)).keepQ f32.q).keepQ f33.q
  have hBl := hBoth.len
  refine jn.mk (fun c w' => c = true ∧ Quiet w21 w') ⟨fun _ => (same_c w21 r17 out _ _ hB21 hW21 (by omega)).use ?_, fun hc => by cases hc⟩ ?_
  · rintro r w23 ⟨rfl, q⟩
    exact ⟨by simp, q⟩
  rintro c w24 ⟨rfl, q24⟩
  refine jn.mk (fun c w' => c = true ∧ Quiet w21 w') ⟨fun _ => ?_, fun hc => by cases hc⟩ ?_
  · refine (reach_c w24 s r17 l _ (args (q21.tr q24) (hB21.keepQ q24) (by omega))).use ?_
    rintro r44 w25 ⟨F44, o44, f44⟩
    rw [rP, reach_again hR] at o44
    refine (same_c w25 r44 r17 _ _ (o44.rd ci1 (by decide)) ((hB21.keepQ q24).keepQ f44.q) (by omega)).use ?_
    rintro r w26 ⟨rfl, q26⟩
    exact ⟨by simp, (q24.tr f44.q).tr q26⟩
  rintro c w27 ⟨rfl, q27⟩
  refine ⟨?_, bq (q21.tr q27)⟩
  rw [hKl, hs, hBl]
  simp
end Go.Proofs.Ytjmjackeeiglmaa
