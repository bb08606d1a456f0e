import Derived.Test.YtmnhehklhelpeaaHc
namespace Go.Proofs.Ytmnhehklhelpeaa
open Go.Dec Go.RowKit
set_option maxHeartbeats 1600000
set_option maxRecDepth 10000

theorem zvS : (Try.prog.info? 56).bind (·.zero) = some (.agg #[.int .i64 0, .int .i64 0]) := by kernel_rfl
/-- a row by its places -/
def rowF {α : Type} (n : Nat) (f : Nat → α) : List α := (List.range n).map f
theorem rowF_len {α : Type} (n : Nat) (f : Nat → α) : (rowF n f).length = n := by simp [rowF]
theorem rowF_at {α : Type} {n i : Nat} (f : Nat → α) (h : i < n) : (rowF n f)[i]? = some (f i) := by simp [rowF, h]
theorem rowF_ext {α : Type} {n : Nat} {f g : Nat → α} (h : ∀ j, j < n → f j = g j) : rowF n f = rowF n g := List.map_congr_left fun j hj => h j (List.mem_range.1 hj)
theorem rowF_set {α : Type} {n i : Nat} {f g : Nat → α} {v : α} (hi : i < n) (hv : g i = v) (h : ∀ j, j < n → j ≠ i → f j = g j) : (rowF n f).set i v = rowF n g := by
  apply List.ext_getElem?
  intro j
  by_cases hj : j < n
  · rw [rowF_at g hj, List.getElem?_set]
    by_cases e : i = j
    · subst e
      rw [if_pos rfl, if_pos (by rw [rowF_len]; exact hi), hv]
    · rw [if_neg e, rowF_at f hj, h j hj (fun c => e c.symm)]
  · have h1 : ((rowF n f).set i v)[j]? = none := List.getElem?_eq_none (by rw [List.length_set, rowF_len]; omega)
    have h2 : (rowF n g)[j]? = none := List.getElem?_eq_none (by rw [rowF_len]; omega)
    rw [h1, h2]
theorem rowF_rep {α : Type} (n : Nat) (x : α) : List.replicate n x = rowF n fun _ => x := by
  apply List.ext_getElem?
  intro j
  by_cases hj : j < n
  · rw [rowF_at _ hj]
    simp [hj]
  · have h1 : (List.replicate n x)[j]? = none := List.getElem?_eq_none (by simp; omega)
    have h2 : (rowF n fun _ => x)[j]? = none := List.getElem?_eq_none (by rw [rowF_len]; omega)
    rw [h1, h2]
theorem rsplit_c (w : World) (secret k n seed : Int) :
    callC Try.prog 34 #[.int .i64 secret, .int .i64 k, .int .i64 n, .int .i64 seed] (fun (r : Sl × Int) => .tuple #[Sl.v r.1, .int .i64 r.2]) w fun r w' => (¬ okSplit secret k n → r = (Sl.nil, 1)) ∧ (okSplit secret k n → r.2 = 0 ∧ ∃ F, OwnF w' F 56 2 r.1 ((splP secret k.toNat n.toNat seed).flatMap pt) ∧ Fresh w w' F) ∧ Quiet w w' := by
  refine D34 _ _ _ _ w _ ?_
  unfold F34
  refine ⟨fun g => ?_, fun g => ?_⟩
  · simp only [Bool.or_eq_true, decide_eq_true_eq] at g
    have : ¬ okSplit secret k n := fun c => by
      obtain ⟨⟨c1, c1'⟩, c2, c3, c4⟩ := c
      omega
    exact ⟨fun _ => rfl, fun c => absurd c this, Only.refl _ _⟩
  simp only [Bool.or_eq_false_iff, decide_eq_false_iff_not] at g
  have hok : okSplit secret k n := ⟨⟨by omega, by omega⟩, by omega, by omega, by omega⟩
  have hs : Fld secret := hok.1
  obtain ⟨N, rfl⟩ := Int.eq_ofNat_of_zero_le (show 0 ≤ n by omega)
  have hN : N ≤ 20 := by omega
  refine rn_makeN (n := N) (x := (⟨0, 0⟩ : Pt)) apS zvS rfl pt_len (by unfold maxLen; omega) (by omega) fun r20 w1 F o1 _ f1 => ?_
  rw [rowF_rep] at o1
  refine ⟨fun i w' => 0 ≤ i ∧ i ≤ N ∧ Fresh w w' F ∧ OwnF w' F 56 2 r20 ((rowF N fun j => if j < i.toNat then (⟨(j : Int) + 1, secret⟩ : Pt) else ⟨0, 0⟩).flatMap pt), fun i _ => (N - i).toNat, ⟨by simp, by omega, f1, by simpa using o1⟩, ?_⟩
  rintro i w2 ⟨i0, i1, f2, o2⟩
  refine ⟨fun hi => ?_, fun hi => ?_⟩
  · have hi : i < (N : Int) := of_decide_eq_true hi
    rw [w64 (by omega) (by omega)]
    refine o2.put (i := i) (y := (⟨i + 1, secret⟩ : Pt)) pt_len i0 (by rw [rowF_len]; exact hi) (by decide) fun w3 o3 on3 _ => ⟨⟨by omega, by omega, f2.only on3, ?_⟩, by (try dsimp only); omega⟩
    rw [rowF_set (g := fun j => if j < (i + 1).toNat then (⟨(j : Int) + 1, secret⟩ : Pt) else ⟨0, 0⟩) (by omega) (by rw [if_pos (by omega), Int.toNat_of_nonneg i0]) (fun j hj hne => by
      by_cases e : j < i.toNat
      · rw [if_pos e, if_pos (by omega)]
      · rw [if_neg e, if_neg (by omega)])] at o3
    exact o3
  have hi : ¬ i < (N : Int) := of_decide_eq_false hi
  have o2 : OwnF w2 F 56 2 r20 ((rowF N fun j => (⟨(j : Int) + 1, secret⟩ : Pt)).flatMap pt) := by
    rwa [rowF_ext (g := fun j => (⟨(j : Int) + 1, secret⟩ : Pt)) (fun j hj => by rw [if_pos (by omega)])] at o2
  refine rn_make1 (n := N) apI zvI rfl (by unfold maxLen; omega) (by omega) fun r25 w4 G o4 _ f4 => ?_
  have o4 : OwnF w4 G 3 1 r25 ((rowF N fun _ => (0 : Int)).flatMap ci) := by
    rw [← rowF_rep, ← flat_rep (c := ci) (x := 0) (v := .int .i64 0) rfl]
    exact o4
  have O4 : Objs w w4 (two F G) := ((Objs.start w).none2.n0 f2).n1 f4
  have o24 := o2.keepQ f4.q
  clear o1 o2 f1 f2 f4
  refine ⟨fun i w' => 0 ≤ i ∧ i ≤ N ∧ Objs w w' (two F G) ∧ OwnF w' F 56 2 r20 ((rowF N fun j => (⟨(j : Int) + 1, secret⟩ : Pt)).flatMap pt) ∧ OwnF w' G 3 1 r25 ((rowF N fun j => if j < i.toNat then (1 : Int) else 0).flatMap ci), fun i _ => (N - i).toNat, ⟨by simp, by omega, O4, o24, by simpa using o4⟩, ?_⟩
  clear O4 o24 o4
  rintro i w5 ⟨i0, i1, O5, oA, oB⟩
  refine ⟨fun hi => ?_, fun hi => ?_⟩
  · have hi : i < (N : Int) := of_decide_eq_true hi
    rw [w64 (by omega) (by omega)]
    refine oB.put (i := i) (y := (1 : Int)) ci1 i0 (by rw [rowF_len]; exact hi) (by decide) fun w3 o3 on3 _ => ⟨⟨by omega, by omega, O5.s1 ⟨on3, fun b e => .inl e⟩, oA.keep on3 O5.d01, ?_⟩, by (try dsimp only); omega⟩
    rw [rowF_set (g := fun j => if j < (i + 1).toNat then (1 : Int) else 0) (by omega) (by rw [if_pos (by omega)]) (fun j hj hne => by
      by_cases e : j < i.toNat
      · rw [if_pos e, if_pos (by omega)]
      · rw [if_neg e, if_neg (by omega)])] at o3
    exact o3
  have hi : ¬ i < (N : Int) := of_decide_eq_false hi
  have oB : OwnF w5 G 3 1 r25 ((rowF N fun _ => (1 : Int)).flatMap ci) := by
    rwa [rowF_ext (g := fun _ => (1 : Int)) (fun j hj => by rw [if_pos (by omega)])] at oB
  generalize hcs : secret :: facS (seedS seed) (k.toNat - 1) = cs
  have hcl : cs.length = k.toNat := by
    rw [← hcs, List.length_cons, facS_len]
    omega
  have hfac : ∀ (m : Nat) (x : Int) (c : Nat), c < m → (facS x m)[c]? = some (iterS x (c + 1) % 2147483647) := by
    intro m
    induction m with
    | zero => intro x c hc; omega
    | succ m ih =>
      intro x c hc
      rw [facS]
      cases c with
      | zero => rfl
      | succ c =>
        rw [List.getElem?_cons_succ, ih (nextS x) c (by omega), iterS_front (c + 1) x]
  have hcat : ∀ c : Nat, 1 ≤ c → c < k.toNat → cs[c]? = some (iterS (seedS seed) c % 2147483647) := by
    intro c h1 h2
    obtain ⟨d, rfl⟩ : ∃ d, c = d + 1 := ⟨c - 1, by omega⟩
    rw [← hcs, List.getElem?_cons_succ, hfac _ _ d (by omega)]
  -- c factors are in: Y c; the powers are those of c - 1
  let Y : Nat → Nat → Int := fun c j => evp (cs.take c) ((j : Int) + 1) % 2147483647
  let Pw : Nat → Nat → Int := fun c j => ((j : Int) + 1) ^ c % 2147483647
  have hY1 : ∀ j, Y 1 j = secret := fun j => by
    show evp (cs.take 1) ((j : Int) + 1) % 2147483647 = secret
    rw [← hcs]
    simp [evp]
    have := hs.1
    have := hs.2
    omega
  have hP0 : ∀ j, Pw 0 j = 1 := fun j => by
    show ((j : Int) + 1) ^ 0 % 2147483647 = 1
    rw [Int.pow_zero]
    rfl
  have hYf : ∀ c j, Fld (Y c j) := fun c j => mod_fld _
  have hPf : ∀ c j, Fld (Pw c j) := fun c j => mod_fld _
  rw [seed_eq]
  refine ⟨fun (l : Int × Int) w' => 1 ≤ l.2 ∧ l.2 ≤ k ∧ l.1 = iterS (seedS seed) (l.2.toNat - 1) ∧ Objs w w' (two F G) ∧ OwnF w' F 56 2 r20 ((rowF N fun j => (⟨(j : Int) + 1, Y l.2.toNat j⟩ : Pt)).flatMap pt) ∧ OwnF w' G 3 1 r25 ((rowF N fun j => Pw (l.2.toNat - 1) j).flatMap ci), fun l _ => (k - l.2).toNat, ⟨by simp, by (try dsimp only); omega, rfl, O5, ?_, ?_⟩, ?_⟩
  · rw [rowF_ext (g := fun j => (⟨(j : Int) + 1, secret⟩ : Pt)) (fun j hj => by
      show (⟨(j : Int) + 1, Y 1 j⟩ : Pt) = _
      rw [hY1])]
    exact oA
  · show OwnF w5 G 3 1 r25 ((rowF N fun j => Pw 0 j).flatMap ci)
    rw [rowF_ext (g := fun _ => (1 : Int)) (fun j hj => hP0 j)]
    exact oB
  clear oA oB O5
  rintro ⟨x, c⟩ w7 ⟨c0, c1, hx, O7, oA, oB⟩
  dsimp only at c0 c1 hx oA oB ⊢
  subst hx
  refine ⟨fun hc => ?_, fun hc => ?_⟩
  rotate_left
  · have hc : ¬ c < k := of_decide_eq_false hc
    refine ⟨fun e => absurd hok e, fun _ => ⟨rfl, F, ?_, Quiet.ofBelow O7.bl, fun b hb => ⟨O7.sep.ge 0 b hb, O7.sep.lt 0 b hb⟩⟩, Quiet.ofBelow O7.bl⟩
    have e : rowF N (fun j => (⟨(j : Int) + 1, Y c.toNat j⟩ : Pt)) = splP secret k.toNat (Int.toNat (N : Int)) seed := by
      unfold splP
      rw [Int.toNat_natCast]
      refine rowF_ext fun j hj => ?_
      unfold shAt
      show (⟨(j : Int) + 1, evp (cs.take c.toNat) ((j : Int) + 1) % 2147483647⟩ : Pt) = _
      rw [List.take_of_length_le (by omega), hcs]
    rw [e] at oA
    exact oA
  have hc : c < k := of_decide_eq_true hc
  have hil := iterS_lt seed (c.toNat - 1)
  rw [next_eq hil.1 hil.2]
  have hit : nextS (iterS (seedS seed) (c.toNat - 1)) = iterS (seedS seed) c.toNat := by
    rw [show c.toNat = c.toNat - 1 + 1 by omega, iterS]
    rfl
  rw [hit]
  have hil' := iterS_lt seed c.toNat
  rw [Int.tmod_eq_emod_of_nonneg hil'.1]
  generalize hX : iterS (seedS seed) c.toNat % 2147483647 = X
  have hXf : Fld X := by rw [← hX]; exact mod_fld _
  have hca := hcat c.toNat (by omega) (by omega)
  rw [hX] at hca
  have hYn : ∀ j, cg (Y (c.toNat + 1) j) (Y c.toNat j + X * Pw c.toNat j) := fun j => by
    have e1 : cg (Y (c.toNat + 1) j) (evp (cs.take (c.toNat + 1)) ((j : Int) + 1)) := cg.mod _
    have e2 : cg (Y c.toNat j + X * Pw c.toNat j) (evp (cs.take c.toNat) ((j : Int) + 1) + X * ((j : Int) + 1) ^ c.toNat) := (cg.mod _).add ((cg.refl X).mul (cg.mod _))
    refine e1.trans (cg.trans (cg.of ?_) e2.symm)
    rw [take_next hca, evp_app, List.length_take, show min c.toNat cs.length = c.toNat by omega]
    simp only [evp, Int.mul_zero, Int.add_zero]
    rw [Int.mul_comm X]
  have hPn : ∀ j, cg (Pw c.toNat j) (Pw (c.toNat - 1) j * ((j : Int) + 1)) := fun j => by
    have e1 : cg (Pw c.toNat j) (((j : Int) + 1) ^ c.toNat) := cg.mod _
    have e2 : cg (Pw (c.toNat - 1) j * ((j : Int) + 1)) (((j : Int) + 1) ^ (c.toNat - 1) * ((j : Int) + 1)) := (cg.mod _).mul (cg.refl _)
    refine e1.trans (cg.trans (cg.of ?_) e2.symm)
    rw [← Int.pow_succ, show (c.toNat - 1).succ = c.toNat by omega]
  refine ⟨fun i w' => 0 ≤ i ∧ i ≤ N ∧ Objs w w' (two F G) ∧ OwnF w' F 56 2 r20 ((rowF N fun j => (⟨(j : Int) + 1, if j < i.toNat then Y (c.toNat + 1) j else Y c.toNat j⟩ : Pt)).flatMap pt) ∧ OwnF w' G 3 1 r25 ((rowF N fun j => if j < i.toNat then Pw c.toNat j else Pw (c.toNat - 1) j).flatMap ci), fun i _ => (N - i).toNat, ⟨by simp, by omega, O7, by simpa using oA, by simpa using oB⟩, ?_⟩
  clear oA oB O7
  rintro i w8 ⟨i0, i1, O8, oA, oB⟩
  have hiI : ((i.toNat : Nat) : Int) = i := Int.toNat_of_nonneg i0
  refine ⟨fun hi => ?_, fun hi => ?_⟩
  rotate_left
  · have hi : ¬ i < (N : Int) := of_decide_eq_false hi
    rw [w64 (by omega) (by omega)]
    refine ⟨⟨by (try dsimp only); omega, by (try dsimp only); omega, ?_, O8, ?_, ?_⟩, by (try dsimp only); omega⟩
    · rw [show (c + 1).toNat - 1 = c.toNat by omega]
    · rw [show (c + 1).toNat = c.toNat + 1 by omega]
      rw [rowF_ext (g := fun j => (⟨(j : Int) + 1, Y (c.toNat + 1) j⟩ : Pt)) (fun j hj => by rw [if_pos (by omega)])] at oA
      exact oA
    · rw [show (c + 1).toNat - 1 = c.toNat by omega]
      rw [rowF_ext (g := fun j => Pw c.toNat j) (fun j hj => by rw [if_pos (by omega)])] at oB
      exact oB
  have hi : i < (N : Int) := of_decide_eq_true hi
  have hiN : i.toNat < N := by omega
  have hb := rowF_at (n := N) (fun j => if j < i.toNat then Pw c.toNat j else Pw (c.toNat - 1) j) hiN
  rw [if_neg (Nat.lt_irrefl _)] at hb
  have hPo := hPf (c.toNat - 1) i.toNat
  have p1 := hPo.1
  have p2 := hPo.2
  have m0 : 0 ≤ Pw (c.toNat - 1) i.toNat * (i + 1) ∧ Pw (c.toNat - 1) i.toNat * (i + 1) ≤ 45097156587 := by
    have h1 := Int.mul_nonneg p1 (show 0 ≤ i + 1 by omega)
    have h2 : Pw (c.toNat - 1) i.toNat * (i + 1) ≤ 2147483647 * 21 := Int.mul_le_mul (by omega) (by omega) (by omega) (by decide)
    exact ⟨h1, by omega⟩
  refine (oB.rd ci1 (by decide)).ixx i0 hb fun p hat _ => hat.ld0 rfl ?_
  rw [w64 (x := i + 1) (by omega) (by omega), w64 (x := Pw (c.toNat - 1) i.toNat * (i + 1)) (by omega) (by omega)]
  have hPe : (Pw (c.toNat - 1) i.toNat * (i + 1)).tmod 2147483647 = Pw c.toNat i.toNat := by
    refine fld_eq ((cg.tmod m0.1).trans ?_) (tmod_fld m0.1) (hPf _ _)
    have := (hPn i.toNat).symm
    rwa [hiI] at this
  rw [hPe]
  refine oB.put (i := i) (y := Pw c.toNat i.toNat) ci1 i0 (by rw [rowF_len]; exact hi) (by decide) fun w9 oB9 on9 _ => ?_
  rw [rowF_set (g := fun j => if j < (i + 1).toNat then Pw c.toNat j else Pw (c.toNat - 1) j) hiN (by rw [if_pos (by omega)]) (fun j hj hne => by
      by_cases e : j < i.toNat
      · rw [if_pos e, if_pos (by omega)]
      · rw [if_neg e, if_neg (by omega)])] at oB9
  have O9 := O8.s1 ⟨on9, fun b e => .inl e⟩
  have oA9 := oA.keep on9 O8.d01
  refine jn.mk (fun _ w' => Objs w w' (two F G) ∧ OwnF w' F 56 2 r20 ((rowF N fun j => (⟨(j : Int) + 1, if j < (i + 1).toNat then Y (c.toNat + 1) j else Y c.toNat j⟩ : Pt)).flatMap pt) ∧ OwnF w' G 3 1 r25 ((rowF N fun j => if j < (i + 1).toNat then Pw c.toNat j else Pw (c.toNat - 1) j).flatMap ci)) ?_ ?_
  rotate_left
  · rintro _ w12 ⟨k1, k2, k3⟩
    exact ⟨⟨by omega, by omega, k1, k2, k3⟩, by (try dsimp only); omega⟩
  show tk _ _
  unfold tk
  have qd : Quiet w9 w9.drew := Only.drew _ _
  have O10 := O9.quiet qd
  have oA10 := oA9.keepQ qd
  have oB10 := oB9.keepQ qd
  generalize w9.drew = w10 at *
  have ha := rowF_at (n := N) (fun j => (⟨(j : Int) + 1, if j < i.toNat then Y (c.toNat + 1) j else Y c.toNat j⟩ : Pt)) hiN
  have hb2 := rowF_at (n := N) (fun j => if j < (i + 1).toNat then Pw c.toNat j else Pw (c.toNat - 1) j) hiN
  (try dsimp only at ha hb2)
  rw [if_neg (Nat.lt_irrefl _)] at ha
  rw [if_pos (by omega)] at hb2
  refine (oA10.rd pt_len (by decide)).ixx i0 ha fun p hat _ => hat.ld (j := 1) rfl ((oB10.rd ci1 (by decide)).ixx i0 hb2 fun p hat _ => hat.ld0 rfl ?_)
  have m1 := mul_lt hXf (hPf c.toNat i.toNat)
  have y1 := (hYf c.toNat i.toNat).1
  have y2 := (hYf c.toNat i.toNat).2
  rw [w64 (x := X * Pw c.toNat i.toNat) (by omega) (by omega)]
  show ix r20 i 2 fun p44 => st (p44.add 1) [(Value.int .i64 ((IntKind.i64.wrap (Y c.toNat i.toNat + X * Pw c.toNat i.toNat)).tmod 2147483647))] w10 _
  rw [w64 (x := Y c.toNat i.toNat + X * Pw c.toNat i.toNat) (by omega) (by omega)]
  have hYe : (Y c.toNat i.toNat + X * Pw c.toNat i.toNat).tmod 2147483647 = Y (c.toNat + 1) i.toNat := fld_eq ((cg.tmod (by omega)).trans (hYn i.toNat).symm) (tmod_fld (by omega)) (hYf _ _)
  rw [hYe]
  refine oA10.setj (i := i) (x := (⟨(i.toNat : Int) + 1, Y c.toNat i.toNat⟩ : Pt)) (y := (⟨(i.toNat : Int) + 1, Y (c.toNat + 1) i.toNat⟩ : Pt)) (j := 1) pt_len i0 ha rfl (by decide) fun w11 oA11 on11 _ => ?_
  rw [rowF_set (g := fun j => (⟨(j : Int) + 1, if j < (i + 1).toNat then Y (c.toNat + 1) j else Y c.toNat j⟩ : Pt)) hiN (by rw [if_pos (by omega)]) (fun j hj hne => by
      by_cases e : j < i.toNat
      · rw [if_pos e, if_pos (by omega)]
      · rw [if_neg e, if_neg (by omega)])] at oA11
  exact ⟨O10.s0 ⟨on11, fun b e => .inl e⟩, oA11, oB10.keep on11 O10.d10⟩
end Go.Proofs.Ytmnhehklhelpeaa
