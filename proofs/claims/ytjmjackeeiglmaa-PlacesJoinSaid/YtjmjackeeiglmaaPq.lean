import Derived.Test.YtjmjackeeiglmaaPp
namespace Go.Dec
theorem Fresh.after {w0 w w' : World} {F : Nat → Prop} (q : Quiet w0 w) (h : Fresh w w' F) : Fresh w0 w' F := ⟨q.tr h.q, fun b hb => ⟨Nat.le_trans q.size (h.b b hb).1, (h.b b hb).2⟩⟩
/-- two that came one after the other are apart -/
theorem Fresh.apart {w0 w1 w2 : World} {F G : Nat → Prop} (h : Fresh w0 w1 F) (k : Fresh w1 w2 G) : ∀ b, F b → ¬ G b := fun b hb hg => by
  have := (h.b b hb).2
  have := (k.b b hg).1
  omega
end Go.Dec
namespace Go.Proofs.Ytjmjackeeiglmaa
open Go.Dec Go.RowKit
set_option maxHeartbeats 400000

theorem order_c (w : World) (s t : Sl) (l : List Pl) (some_ : List Int) (h : Args w s l t some_) :
    callC Try.prog 15 #[s.v, t.v] Sl.v w fun r w' => ∃ F, OwnF w' F 3 1 r ((orderP some_ l).flatMap ci) ∧ Fresh w w' F := by
  obtain ⟨hP, hs, l1, f1, s1⟩ := h
  have hsl := hP.len
  refine D15 _ _ w _ ?_
  unfold F15
  refine (right_c w s l hP l1 fun p hp => by have := f1 p hp; omega).use ?_
  rintro r w1 ⟨hr, q1⟩
  refine ⟨fun hc => ?_, fun hc => ?_⟩
  · have : ¬ RtP l := fun e => by rw [hr.2 e] at hc; cases hc
    unfold orderP
    rw [if_neg this]
    exact ⟨_, OwnF.nil _ _ _ _, (Fresh.none w).keep q1⟩
  have hR : RtP l := hr.1 (by simpa using hc)
  have hll := hR.len
  unfold orderP
  rw [if_pos hR]
  refine (marked_c w1 s t some_ (hs.keepQ q1) (by omega) s1).use ?_
  rintro r3 w2 ⟨F, ho2, hf2⟩
  rw [hsl] at ho2
  refine (indices_c w2 r3 _ (ho2.rd cb1 (by decide)) (by rw [marks_len]; omega)).use ?_
  rintro r4 w3 ⟨F', ho3, hf3⟩
  have hil := idx_len 0 (marks some_ l.length)
  rw [marks_len] at hil
  refine (reverse_c w3 F' r4 _ ho3 (by omega)).use ?_
  rintro _ w4 ⟨ho4, st4⟩
  exact ⟨F', ho4, (Fresh.after (q1.tr hf2.q) hf3).stp st4⟩

theorem rorder_c (w : World) (s t : Sl) (l : List Pl) (some_ : List Int) (h : Args w s l t some_) :
    callC Try.prog 16 #[s.v, t.v] Sl.v w fun r w' => ∃ F, OwnF w' F 3 1 r ((orderP some_ l).flatMap ci) ∧ Fresh w w' F := by
  obtain ⟨hP, hs, l1, f1, s1⟩ := h
  have hsl := hP.len
  refine D16 _ _ w _ ?_
  unfold F16
  refine (rright_c w s l hP l1 fun p hp => by have := f1 p hp; omega).use ?_
  rintro r w1 ⟨hr, q1⟩
  refine ⟨fun hc => ?_, fun hc => ?_⟩
  · have : ¬ RtP l := fun e => by rw [hr.2 e] at hc; cases hc
    unfold orderP
    rw [if_neg this]
    exact ⟨_, OwnF.nil _ _ _ _, (Fresh.none w).keep q1⟩
  have hR : RtP l := hr.1 (by simpa using hc)
  have hll := hR.len
  unfold orderP
  rw [if_pos hR]
  rw [hsl, w64 (by omega) (by omega)]
  have hml := marks_len some_ l.length
  refine ⟨fun (c : Sl × Int) w' => -1 ≤ c.2 ∧ c.2 ≤ (l.length : Int) - 1 ∧ ∃ F, OwnF w' F 3 1 c.1 ((idx (c.2 + 1) ((marks some_ l.length).drop (c.2 + 1).toNat)).reverse.flatMap ci) ∧ Fresh w w' F, fun c _ => (c.2 + 1).toNat, ⟨by (try dsimp only); omega, by (try dsimp only); omega, fun _ => False, ?_, (Fresh.none w).keep q1⟩, ?_⟩
  · have : (marks some_ l.length).drop ((l.length : Int) - 1 + 1).toNat = [] := List.drop_of_length_le (by rw [hml]; omega)
    dsimp only
    rw [this]
    exact OwnF.nil _ _ _ _
  rintro ⟨out, i⟩ w2 ⟨i0, i1, F, ho, hf⟩
  dsimp only at i0 i1 ho ⊢
  refine ⟨fun hi => ?_, fun hi => ?_⟩
  · have hi0 : 0 ≤ i := by simpa using hi
    have hd : (marks some_ l.length).drop i.toNat = decide (i ∈ some_) :: (marks some_ l.length).drop (i + 1).toNat := by
      rw [List.drop_eq_getElem_cons (by rw [hml]; omega), show (i + 1).toNat = i.toNat + 1 by omega]
      congr 1
      simp [marks, show ((i.toNat : Nat) : Int) = i by omega]
    refine jn.mk (fun (c : Sl) w' => ∃ F, OwnF w' F 3 1 c ((idx i ((marks some_ l.length).drop i.toNat)).reverse.flatMap ci) ∧ Fresh w w' F) ?_ ?_
    · refine (has_c w2 t some_ i (hs.keepQ hf.q) s1).use ?_
      rintro r7 w4 ⟨rfl, rfl⟩
      rw [hd]
      refine ⟨fun hc => ?_, fun hc => ?_⟩
      · have hil := idx_len (i + 1) ((marks some_ l.length).drop (i + 1).toNat)
        rw [List.length_drop, hml] at hil
        have hol := (ho.rd ci1 (by decide)).len
        rw [List.length_reverse] at hol
        refine OwnF.push ap23 ho rfl rfl (by unfold maxLen; omega) (by omega) fun r w4 F' ho' _ st' => ⟨F', ?_, hf.stp st'⟩
        rw [hc]
        simpa [ci, idx] using ho'
      · rw [hc]
        exact ⟨F, by simpa [idx] using ho, hf⟩
    · rintro c w3 ⟨F', h1, h2⟩
      rw [w64 (by omega) (by omega)]
      refine ⟨⟨by (try dsimp only); omega, by (try dsimp only); omega, F', ?_, h2⟩, by (try dsimp only); omega⟩
      rw [show i - 1 + 1 = i by omega]
      exact h1
  · have hi' : i = -1 := by simp at hi; omega
    subst hi'
    exact ⟨F, by simpa using ho, hf⟩

/-! ### kinds -/
def kindOf (l : List Pl) (x : Int) : Int := ((l[x.toNat]?).map (·.kind)).getD 0
def cnt (l : List Pl) (xs : List Int) : List Int := (List.range 8).map fun (c : Nat) => ((xs.filter fun x => decide (kindOf l x = c)).length : Int)
theorem cnt_len (l : List Pl) (xs : List Int) : (cnt l xs).length = 8 := by simp [cnt]
theorem cnt_nil (l : List Pl) : cnt l [] = List.replicate 8 0 := rfl
theorem cnt_get {l : List Pl} {xs : List Int} {c : Nat} (h : c < 8) : (cnt l xs)[c]? = some ((xs.filter fun x => decide (kindOf l x = c)).length : Int) := by simp [cnt, h]
theorem cnt_snoc {l : List Pl} {xs : List Int} {x : Int} (h0 : 0 ≤ kindOf l x) : cnt l (xs ++ [x]) = (cnt l xs).set (kindOf l x).toNat (((xs.filter fun y => decide (kindOf l y = kindOf l x)).length : Int) + 1) := by
  apply List.ext_getElem
  · simp [cnt]
  · intro j h1 h2
    simp only [cnt, List.getElem_set, List.getElem_map, List.getElem_range, List.filter_append, List.length_append]
    by_cases e : (kindOf l x).toNat = j
    · have ej : (j : Int) = kindOf l x := by omega
      rw [if_pos e, ej]
      simp
    · have : ¬ kindOf l x = (j : Int) := by omega
      rw [if_neg e]
      simp [this]
open Classical in
noncomputable def kindsP (some_ : List Int) (l : List Pl) : List Int := if RtP l then cnt l (idx 0 (marks some_ l.length)) else []

theorem kinds_c (w : World) (s t : Sl) (l : List Pl) (some_ : List Int) (h : Args w s l t some_) :
    callC Try.prog 17 #[s.v, t.v] Sl.v w fun r w' => ∃ F, OwnF w' F 3 1 r ((kindsP some_ l).flatMap ci) ∧ Fresh w w' F := by
  obtain ⟨hP, hs, l1, f1, s1⟩ := h
  have hsl := hP.len
  refine D17 _ _ w _ ?_
  unfold F17
  refine (right_c w s l hP l1 fun p hp => by have := f1 p hp; omega).use ?_
  rintro r w1 ⟨hr, q1⟩
  refine ⟨fun hc => ?_, fun hc => ?_⟩
  · have : ¬ RtP l := fun e => by rw [hr.2 e] at hc; cases hc
    unfold kindsP
    rw [if_neg this]
    exact ⟨_, OwnF.nil _ _ _ _, (Fresh.none w).keep q1⟩
  have hR : RtP l := hr.1 (by simpa using hc)
  have hll := hR.len
  unfold kindsP
  rw [if_pos hR]
  refine rn_make1 (n := 8) ap23 zv3 rfl (by unfold maxLen; omega) (by omega) fun r3 w2 F3 ho3 hl3 hf3 => ?_
  rw [flat_rep (c := ci) (x := 0) rfl, ← cnt_nil l] at ho3
  have q2 := q1.tr hf3.q
  refine (marked_c w2 s t some_ (hs.keepQ q2) (by omega) s1).use ?_
  rintro r4 w3 ⟨F4, ho4, hf4⟩
  rw [hsl] at ho4
  refine (indices_c w3 r4 _ (ho4.rd cb1 (by decide)) (by rw [marks_len]; omega)).use ?_
  rintro r5 w4 ⟨F5, ho5, hf5⟩
  have hil := idx_len 0 (marks some_ l.length)
  rw [marks_len] at hil
  have hol := (ho5.rd ci1 (by decide)).len
  have f34 : Fresh w w4 F3 := (Fresh.after q1 hf3).keep (hf4.q.tr hf5.q)
  have apart : ∀ b, F5 b → ¬ F3 b := fun b h5 h3 => (hf3.apart (Fresh.after hf4.q hf5)) b h3 h5
  refine ⟨fun i w' => 0 ≤ i ∧ i ≤ (idx 0 (marks some_ l.length)).length ∧ OwnF w' F3 3 1 r3 ((cnt l ((idx 0 (marks some_ l.length)).take i.toNat)).flatMap ci) ∧ OwnF w' F5 3 1 r5 ((idx 0 (marks some_ l.length)).flatMap ci) ∧ Fresh w w' F3, fun i _ => ((idx 0 (marks some_ l.length)).length - i).toNat, ⟨by omega, by omega, by simpa using (ho3.keepQ hf4.q).keepQ hf5.q, ho5, f34⟩, ?_⟩
  rintro i w5 ⟨i0, i1, ho, ho5', hf⟩
  refine ⟨fun hi => ?_, fun hi => ?_⟩
  · have hlt : i < (idx 0 (marks some_ l.length)).length := by rw [hol] at hi; simpa using hi
    obtain ⟨x, hx⟩ := getq i0 hlt
    have hm := (mem_idx 0 _ x).1 (List.mem_of_getElem? hx)
    have hxl : x < l.length := by
      have := (List.getElem?_eq_some_iff.1 hm.2).1
      rw [marks_len] at this
      omega
    refine (ho5'.rd ci1 (by decide)).ix i0 hlt fun p y hy hat _ => hat.ld0 rfl ?_
    rw [hx] at hy
    injection hy with hy
    subst hy
    refine hP.ixq hf.q hm.1 hxl fun p z fs hz hat' hfs => hat'.ld (j := 0) rfl ?_
    have hO := hR.ok _ _ hz
    have hk : kindOf l x = z.kind := by simp [kindOf, hz]
    have k0 := hO.k0
    have k1 := hO.k1
    have g := cnt_get (l := l) (xs := (idx 0 (marks some_ l.length)).take i.toNat) (c := z.kind.toNat) (by omega)
    have hfl := List.length_filter_le (fun y => decide (kindOf l y = (z.kind.toNat : Int))) ((idx 0 (marks some_ l.length)).take i.toNat)
    rw [List.length_take] at hfl
    refine (ho.rd ci1 (by decide)).ix k0 (by rw [cnt_len]; omega) fun p v hv hat2 _ => hat2.ld0 rfl ?_
    rw [g] at hv
    injection hv with hv
    subst hv
    rw [w64 (by omega) (by omega), w64 (by omega) (by omega)]
    refine ho.set0 (y := ((((idx 0 (marks some_ l.length)).take i.toNat).filter fun y => decide (kindOf l y = (z.kind.toNat : Int))).length : Int) + 1) ci1 k0 g rfl (by decide) fun w6 ho6 on6 _ => ?_
    refine ⟨⟨by omega, by omega, ?_, ho5'.keep on6 apart, hf.only on6⟩, by (try dsimp only); omega⟩
    rw [show (i + 1).toNat = i.toNat + 1 by omega, take_next hx, cnt_snoc (by omega), hk]
    rw [show ((z.kind.toNat : Nat) : Int) = z.kind by omega] at ho6
    exact ho6
  · have hge : (idx 0 (marks some_ l.length)).length ≤ i.toNat := by rw [hol] at hi; simp at hi; omega
    rw [List.take_of_length_le hge] at ho
    exact ⟨F3, ho, hf⟩

theorem rkinds_c (w : World) (s t : Sl) (l : List Pl) (some_ : List Int) (h : Args w s l t some_) :
    callC Try.prog 18 #[s.v, t.v] Sl.v w fun r w' => ∃ F, OwnF w' F 3 1 r ((kindsP some_ l).flatMap ci) ∧ Fresh w w' F := by
  obtain ⟨hP, hs, l1, f1, s1⟩ := h
  have hsl := hP.len
  refine D18 _ _ w _ ?_
  unfold F18
  refine (rright_c w s l hP l1 fun p hp => by have := f1 p hp; omega).use ?_
  rintro r w1 ⟨hr, q1⟩
  refine ⟨fun hc => ?_, fun hc => ?_⟩
  · have : ¬ RtP l := fun e => by rw [hr.2 e] at hc; cases hc
    unfold kindsP
    rw [if_neg this]
    exact ⟨_, OwnF.nil _ _ _ _, (Fresh.none w).keep q1⟩
  have hR : RtP l := hr.1 (by simpa using hc)
  have hll := hR.len
  unfold kindsP
  rw [if_pos hR]
  refine rn_make1 (n := 8) ap23 zv3 rfl (by unfold maxLen; omega) (by omega) fun r3 w2 F3 ho3 hl3 hf3 => ?_
  rw [flat_rep (c := ci) (x := 0) rfl, ← cnt_nil l] at ho3
  have hml := marks_len some_ l.length
  refine ⟨fun i w' => 0 ≤ i ∧ i ≤ l.length ∧ OwnF w' F3 3 1 r3 ((cnt l (idx 0 ((marks some_ l.length).take i.toNat))).flatMap ci) ∧ Fresh w w' F3, fun i _ => (l.length - i).toNat, ⟨by omega, by omega, by simpa [idx] using ho3, Fresh.after q1 hf3⟩, ?_⟩
  rintro i w3 ⟨i0, i1, ho, hf⟩
  refine ⟨fun hi => ?_, fun hi => ?_⟩
  · have hlt : i < l.length := by simpa [hsl] using hi
    obtain ⟨z, hz⟩ := getq i0 hlt
    have hO := hR.ok _ _ hz
    have k0 := hO.k0
    have k1 := hO.k1
    have hk : kindOf l i = z.kind := by simp [kindOf, hz]
    have htk : (marks some_ l.length).take (i.toNat + 1) = (marks some_ l.length).take i.toNat ++ [decide (i ∈ some_)] := by
      have := marks_get (some_ := some_) (n := l.length) (i := i.toNat) (by omega)
      rw [show ((i.toNat : Nat) : Int) = i by omega] at this
      exact take_next this
    have htl : ((marks some_ l.length).take i.toNat).length = i.toNat := by rw [List.length_take, hml]; omega
    refine jn.mk (fun _ w' => OwnF w' F3 3 1 r3 ((cnt l (idx 0 ((marks some_ l.length).take (i.toNat + 1)))).flatMap ci) ∧ Fresh w w' F3) ?_ ?_
    · refine (has_c w3 t some_ i (hs.keepQ hf.q) s1).use ?_
      rintro r8 w5 ⟨rfl, rfl⟩
      rw [htk, idx_snoc, htl, show (0 : Int) + (i.toNat : Int) = i by omega]
      refine ⟨fun hc => ?_, fun hc => ?_⟩
      · rw [if_pos hc, cnt_snoc (by omega), hk]
        refine jn.in_ ?_
        show tk w3 _
        unfold tk
        have qd : Quiet w3 w3.drew := Only.drew _ _
        have hoD := ho.keepQ qd
        have hfD := hf.keep qd
        have g := cnt_get (l := l) (xs := idx 0 ((marks some_ l.length).take i.toNat)) (c := z.kind.toNat) (by omega)
        have hfl := List.length_filter_le (fun y => decide (kindOf l y = (z.kind.toNat : Int))) (idx 0 ((marks some_ l.length).take i.toNat))
        have hil := idx_len 0 ((marks some_ l.length).take i.toNat)
        refine hP.ixq hfD.q i0 hlt fun p z1 fs hz1 hat' hfs => hat'.ld (j := 0) rfl (hP.ixq hfD.q i0 hlt fun p z2 fs hz2 hat2 hfs => hat2.ld (j := 0) rfl ?_)
        rw [hz] at hz1 hz2
        injection hz1 with hz1
        injection hz2 with hz2
        subst hz1 hz2
        refine (hoD.rd ci1 (by decide)).ix k0 (by rw [cnt_len]; omega) fun p v hv hat3 _ => hat3.ld0 rfl ?_
        rw [g] at hv
        injection hv with hv
        subst hv
        rw [w64 (by omega) (by omega)]
        refine hoD.set0 (y := (((idx 0 ((marks some_ l.length).take i.toNat)).filter fun y => decide (kindOf l y = (z.kind.toNat : Int))).length : Int) + 1) ci1 k0 g rfl (by decide) fun w6 ho6 on6 _ => ?_
        rw [show ((z.kind.toNat : Nat) : Int) = z.kind by omega] at ho6
        exact ⟨ho6, hfD.only on6⟩
      · rw [if_neg (by simp [hc]), List.append_nil]
        exact ⟨ho, hf⟩
    · rintro _ w4 ⟨h1, h2⟩
      rw [w64 (by omega) (by omega)]
      exact ⟨⟨by omega, by omega, by rw [show (i + 1).toNat = i.toNat + 1 by omega]; exact h1, h2⟩, by (try dsimp only); omega⟩
  · have hge : l.length ≤ i.toNat := by simp [hsl] at hi; omega
    rw [List.take_of_length_le (by rw [hml]; exact hge)] at ho
    exact ⟨F3, ho, hf⟩
end Go.Proofs.Ytjmjackeeiglmaa
