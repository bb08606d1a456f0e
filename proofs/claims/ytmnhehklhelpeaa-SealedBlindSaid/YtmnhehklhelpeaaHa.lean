import Derived.Test.YtmnhehklhelpeaaPoly
import Derived.Test.YtmnhehklhelpeaaMade
import Derived.Test.YtmnhehklhelpeaaFs1
import Derived.Test.YtmnhehklhelpeaaFs2
import Derived.Test.YtmnhehklhelpeaaFs3
import Derived.Test.YtmnhehklhelpeaaFs4
import Derived.Test.YtmnhehklhelpeaaFs5
namespace Go.Proofs.Ytmnhehklhelpeaa
open Go.Dec Go.RowKit
set_option maxHeartbeats 800000
set_option maxRecDepth 10000

def pt (x : Pt) : List Value := [.int .i64 x.x, .int .i64 x.y]
theorem pt_len (x : Pt) : (pt x).length = 2 := rfl
theorem pt_one (x : Pt) : (pt x).all Value.oneCell' = true := rfl
def ptv (x : Pt) : Value := .agg #[.int .i64 x.x, .int .i64 x.y]
def ptt (x : Pt) : Int × Int := (x.x, x.y)
theorem pt_ld {w : World} {p : Addr} {x : Pt} {K : Int → Int → Prop} (h : AtC w p (pt x)) (k : K x.x x.y) :
    ld (Value.int .i64) (p.add 0) w fun x0 => ld (Value.int .i64) (p.add 1) w fun x1 => K x0 x1 :=
  h.ld (j := 0) rfl (h.ld (j := 1) rfl k)
def IsPt (w : World) (b : Nat) (x : Pt) : Prop := Blk w b 56 (pt x).toArray
theorem IsPt.at {w : World} {b : Nat} {x : Pt} (h : IsPt w b x) : AtC w (Addr.mk b 0 none) (pt x) := fun j u hu => by
  unfold IsPt at h
  rw [mk_add, h.cell]
  simpa using hu
theorem IsPt.keepQ {w w' : World} {b : Nat} {x : Pt} (h : IsPt w b x) (q : Quiet w w') : IsPt w' b x := Blk.keepQ h q
theorem pt_box {z0 z1 : Value} {w : World} {x : Pt} {K : Nat → World → Prop} (k : ∀ b w', IsPt w' b x → Quiet w w' → w.heap.size ≤ b → b < w'.heap.size → K b w') :
    nw 56 #[z0, z1] w fun b w1 => st (Addr.mk b 0 none) [.int .i64 x.x, .int .i64 x.y] w1 fun w2 => K b w2 :=
  box_all rfl k
def okPt (x : Pt) : Prop := i64 x.x ∧ i64 x.y
def pt_cells (w : World) (p : Addr) (x : Pt) : Prop := w.cell? (p.add 0) = some (.int .i64 x.x) ∧ w.cell? (p.add 1) = some (.int .i64 x.y)
theorem pt_cj {w : World} {p : Addr} {x : Pt} (h : AtC w p (pt x)) : pt_cells w p x := ⟨h.cj (j := 0) rfl, h.cj (j := 1) rfl⟩
theorem pt_row {w : World} {b n : Nat} {cs : Array Value} {l : List Pt} (h : Blk w b 56 cs) (hn : n = l.length) (hc : cs = (l.flatMap pt).toArray) : Rd w pt 2 (⟨some ⟨b, 0, none⟩, n, n⟩ : Sl) l := by
  subst hc
  refine ⟨hn, fun i u hu => ⟨_, rfl, fun j v hv => ?_⟩⟩
  rw [mk_add, mk_add, h.cell]
  simpa using flat_at pt_len hu hv

theorem k3b : KeyOK Try.prog 3 (.int .i64) (Value.int .i64) := keyOK_int (by kernel_rfl)
theorem uMap : Try.prog.underlying 85 = some (.map 3 4) := by kernel_rfl
theorem zvB : (Try.prog.info? 4).bind (·.zero) = some (Value.bool false) := by kernel_rfl
theorem zvI : (Try.prog.info? 3).bind (·.zero) = some (.int .i64 0) := by kernel_rfl
theorem apS : appOK Try.prog 25 56 2 16 = true := by kernel_rfl
theorem apI : appOK Try.prog 35 3 1 8 = true := by kernel_rfl
/-- a number of the field -/
def Fld (n : Int) : Prop := 0 ≤ n ∧ n < 2147483647
instance (n : Int) : Decidable (Fld n) := by unfold Fld; infer_instance
theorem fld0 : Fld 0 := by decide
theorem fld1 : Fld 1 := by decide
theorem fright_c (w : World) (n : Int) : callC Try.prog 32 #[.int .i64 n] (fun (r : Bool) => .bool r) w fun r w' => r = decide (Fld n) ∧ w = w' := by
  refine D32 _ w _ ?_
  unfold F32
  refine ⟨?_, rfl⟩
  rw [Bool.eq_iff_iff, decide_eq_true_eq, Bool.and_eq_true, decide_eq_true_eq, decide_eq_true_eq]
  exact Iff.rfl
theorem mul_lt {a b : Int} (ha : Fld a) (hb : Fld b) : 0 ≤ a * b ∧ a * b ≤ 4611686009837453316 := by
  have h1 := Int.mul_nonneg ha.1 hb.1
  have h2 : a * b ≤ 2147483646 * 2147483646 := Int.mul_le_mul (by have := ha.2; omega) (by have := hb.2; omega) hb.1 (by decide)
  exact ⟨h1, by omega⟩
theorem tmod_fld {a : Int} (h : 0 ≤ a) : Fld (a.tmod 2147483647) := tmod_can h
theorem fld_eq {a b : Int} (h : cg a b) (ha : Fld a) (hb : Fld b) : a = b := h.eq ha.1 ha.2 hb.1 hb.2

/-! ### powers -/
theorem odd_and {n : Int} (h0 : 0 ≤ n) (h1 : n < 4294967296) : (andK .i64 n 1 = 1) ↔ n % 2 = 1 := by
  obtain ⟨m, rfl⟩ := Int.eq_ofNat_of_zero_le h0
  unfold andK
  have h2 : (BitVec.ofInt IntKind.i64.bits (m : Int) &&& BitVec.ofInt IntKind.i64.bits 1).toNat = m % 2 := by
    rw [BitVec.toNat_and, BitVec.toNat_ofInt, BitVec.toNat_ofInt]
    have e1 : ((m : Int) % ((2 ^ IntKind.i64.bits : Nat) : Int)).toNat = m := by
      show ((m : Int) % (18446744073709551616 : Int)).toNat = m
      omega
    have e2 : ((1 : Int) % ((2 ^ IntKind.i64.bits : Nat) : Int)).toNat = 1 := by decide
    rw [e1, e2, Nat.and_one_is_mod]
  rw [h2, w64 (by omega) (by omega)]
  omega
theorem half_shr {n : Int} (h0 : 0 ≤ n) : shrK .i64 n 1 = n / 2 := by
  unfold shrK
  show n.fdiv (2 ^ 1) = n / 2
  rw [Int.fdiv_eq_ediv_of_nonneg _ (by decide)]
  rfl
theorem power_c (w : World) (a n : Int) (ha : Fld a) (h0 : 0 ≤ n) (h1 : n < 4294967296) : callC Try.prog 44 #[.int .i64 a, .int .i64 n] (fun (r : Int) => .int .i64 r) w fun r w' => Fld r ∧ cg r (a ^ n.toNat) ∧ w = w' := by
  refine D44 _ _ w _ ?_
  unfold F44
  refine ⟨fun l w' => Fld l.1 ∧ 0 ≤ l.2.1 ∧ l.2.1 ≤ n ∧ Fld l.2.2 ∧ cg (l.2.2 * l.1 ^ l.2.1.toNat) (a ^ n.toNat) ∧ w = w', fun l _ => l.2.1.toNat, ⟨ha, h0, Int.le_refl _, fld1, cg.of (Int.one_mul _), rfl⟩, ?_⟩
  rintro ⟨b, m, out⟩ w1 ⟨hb, m0, m1, ho, hc, rfl⟩
  dsimp only at hb m0 m1 ho hc ⊢
  refine ⟨fun g => ?_, fun g => ?_⟩
  · have g : 0 < m := of_decide_eq_true g
    have hbb := mul_lt hb hb
    have hob := mul_lt ho hb
    have hsq : cg ((IntKind.i64.wrap (b * b)).tmod 2147483647) (b * b) := by
      rw [w64 (by omega) (by omega)]
      exact cg.tmod hbb.1
    have hsf : Fld ((IntKind.i64.wrap (b * b)).tmod 2147483647) := by
      rw [w64 (by omega) (by omega)]
      exact tmod_fld hbb.1
    have hh := half_shr m0
    have key : ∀ out' : Int, Fld out' → cg out' (out * b ^ (m % 2).toNat) → Fld ((IntKind.i64.wrap (b * b)).tmod 2147483647) ∧ 0 ≤ shrK .i64 m 1 ∧ shrK .i64 m 1 ≤ n ∧ Fld out' ∧ cg (out' * ((IntKind.i64.wrap (b * b)).tmod 2147483647) ^ (shrK .i64 m 1).toNat) (a ^ n.toNat) ∧ w = w := by
      intro out' h2 h3
      rw [hh]
      refine ⟨hsf, by omega, by omega, h2, ?_, rfl⟩
      refine (h3.mul (hsq.pow _)).trans ((cg.of ?_).trans hc)
      have e : m.toNat = (m % 2).toNat + 2 * (m / 2).toNat := by omega
      rw [e, Int.pow_add, Int.pow_mul, Int.mul_assoc, show b ^ 2 = b * b by rw [Int.pow_succ, Int.pow_succ, Int.pow_zero, Int.one_mul]]
    refine jn.mk (fun r w' => Fld r ∧ cg r (out * b ^ (m % 2).toNat) ∧ w = w') ⟨fun g1 => ?_, fun g1 => ?_⟩ ?_
    · have g1 := (odd_and m0 (by omega)).1 (of_decide_eq_true g1)
      rw [w64 (by omega) (by omega), g1]
      refine ⟨tmod_fld hob.1, (cg.tmod hob.1).trans (cg.of ?_), rfl⟩
      show out * b = out * b ^ 1
      rw [Int.pow_succ, Int.pow_zero, Int.one_mul]
    · have g1 : ¬ m % 2 = 1 := fun e => of_decide_eq_false g1 ((odd_and m0 (by omega)).2 e)
      rw [show m % 2 = 0 by omega]
      exact ⟨ho, cg.of (by show out = out * b ^ 0; rw [Int.pow_zero, Int.mul_one]), rfl⟩
    rintro r w2 ⟨h2, h3, rfl⟩
    exact ⟨key r h2 h3, by (try dsimp only); rw [hh]; omega⟩
  · have g : ¬ 0 < m := of_decide_eq_false g
    rw [show m.toNat = 0 by omega, Int.pow_zero, Int.mul_one] at hc
    exact ⟨ho, hc, rfl⟩

/-! ### the value at a place -/
/-- a share, or the secret -/
def Okp (s : Pt) : Prop := (0 ≤ s.x ∧ s.x ≤ 20) ∧ Fld s.y
theorem erase_take_lt {l : List Pt} {i j : Nat} {x : Pt} (hj : l[j]? = some x) (hij : i < j) : (l.take (j + 1)).eraseIdx i = (l.take j).eraseIdx i ++ [x] := by
  rw [take_next hj, List.eraseIdx_append_of_lt_length (by have := (List.getElem?_eq_some_iff.1 hj).1; rw [List.length_take]; omega)]
theorem erase_take_ge {l : List Pt} {i j : Nat} (hij : j ≤ i) : (l.take j).eraseIdx i = l.take j := List.eraseIdx_of_length_le (by rw [List.length_take]; omega)
theorem erase_take_eq {l : List Pt} {i : Nat} {x : Pt} (hi : l[i]? = some x) : (l.take (i + 1)).eraseIdx i = l.take i := by
  have := (List.getElem?_eq_some_iff.1 hi).1
  rw [take_next hi, List.eraseIdx_append_of_length_le (by rw [List.length_take]; omega), List.length_take, show i - min i l.length = 0 by omega]
  simp
theorem dif_fld {a b : Int} (ha : 0 ≤ a ∧ a ≤ 20) (hb : 0 ≤ b ∧ b ≤ 20) : Fld ((IntKind.i64.wrap ((IntKind.i64.wrap (a - b)) + 2147483647)).tmod 2147483647) ∧ cg ((IntKind.i64.wrap ((IntKind.i64.wrap (a - b)) + 2147483647)).tmod 2147483647) (a - b) := by
  rw [w64 (x := a - b) (by omega) (by omega), w64 (by omega) (by omega)]
  refine ⟨tmod_fld (by omega), (cg.tmod (by omega)).trans ⟨1, ?_⟩⟩
  unfold M
  omega
theorem value_c (w : World) (s : Sl) (l : List Pt) (at_ : Int) (h : Rd w pt 2 s l) (hl : l.length ≤ 1000) (ho : ∀ p ∈ l, Okp p) (ha : 0 ≤ at_ ∧ at_ ≤ 20) :
    callC Try.prog 39 #[s.v, .int .i64 at_] (fun (r : Int) => .int .i64 r) w fun r w' => Fld r ∧ cg r (lag l at_) ∧ Quiet w w' := by
  have hsl := h.len
  refine D39 _ _ w _ ?_
  unfold F39
  refine ⟨fun c w' => 0 ≤ c.2 ∧ c.2 ≤ l.length ∧ Fld c.1 ∧ cg c.1 (lagS l at_ c.2.toNat) ∧ Quiet w w', fun c _ => (l.length - c.2).toNat, ⟨by simp, by simp, fld0, cg.refl 0, Only.refl _ _⟩, ?_⟩
  rintro ⟨sum, i⟩ w1 ⟨i0, i1, hf, hc, q⟩
  dsimp only at i0 i1 hf hc ⊢
  refine ⟨fun hi => ?_, fun hi => ?_⟩
  rotate_left
  · have hi : ¬ i < (s.len : Int) := of_decide_eq_false hi
    rw [show i.toNat = l.length by omega] at hc
    exact ⟨hf, hc, q⟩
  have hi : i < (s.len : Int) := of_decide_eq_true hi
  obtain ⟨a, hai⟩ := getq (l := l) i0 (by omega)
  have hoa := ho a (List.mem_of_getElem? hai)
  refine (h.keepQ q).ixx i0 hai fun p hat _ => pt_ld hat (pt_box fun b14 w3 hb14 q14 _ _ => ?_)
  replace q := q.tr q14
  refine hb14.at.ld (j := 1) rfl ?_
  refine ⟨fun c w' => 0 ≤ c.2.2 ∧ c.2.2 ≤ l.length ∧ Fld c.1 ∧ Fld c.2.1 ∧ cg c.1 (a.y * pxs ((l.take c.2.2.toNat).eraseIdx i.toNat) at_) ∧ cg c.2.1 (pxs ((l.take c.2.2.toNat).eraseIdx i.toNat) a.x) ∧ Quiet w3 w', fun c _ => (l.length - c.2.2).toNat, ⟨by simp, by simp, hoa.2, fld1, cg.of (by simp [pxs]), cg.of (by simp [pxs]), Only.refl _ _⟩, ?_⟩
  rintro ⟨up, dn, j⟩ w4 ⟨j0, j1, hu, hd, cu, cd, q4⟩
  dsimp only at j0 j1 hu hd cu cd ⊢
  have hj1 : (j + 1).toNat = j.toNat + 1 := toNat_succ j0
  refine ⟨fun hj => ?_, fun hj => ?_⟩
  · have hj : j < (s.len : Int) := of_decide_eq_true hj
    obtain ⟨b, hbj⟩ := getq (l := l) j0 (by omega)
    have hob := ho b (List.mem_of_getElem? hbj)
    refine jn.mk (fun r w' => Fld r.1 ∧ Fld r.2 ∧ cg r.1 (a.y * pxs ((l.take (j.toNat + 1)).eraseIdx i.toNat) at_) ∧ cg r.2 (pxs ((l.take (j.toNat + 1)).eraseIdx i.toNat) a.x) ∧ Quiet w3 w') ?_ ?_
    rotate_left
    · rintro ⟨u', d'⟩ w5 ⟨k1, k2, k3, k4, k5⟩
      rw [w64 (by omega) (by omega)]
      refine ⟨⟨by (try dsimp only); omega, by (try dsimp only); omega, k1, k2, ?_, ?_, k5⟩, by (try dsimp only); omega⟩
      · rw [hj1]
        exact k3
      · rw [hj1]
        exact k4
    refine (h.keepQ (q.tr q4)).ixx j0 hbj fun p hat _ => pt_ld hat (pt_box fun b24 w7 hb24 q24 _ _ => ⟨fun g => ?_, fun g => ?_⟩)
    · have g : j = i := of_decide_eq_true g
      subst g
      rw [erase_take_eq hbj, ← erase_take_ge (l := l) (Nat.le_refl j.toNat)]
      exact ⟨hu, hd, cu, cd, q4.tr q24⟩
    · have g : ¬ j = i := of_decide_eq_false g
      have hE : (l.take (j.toNat + 1)).eraseIdx i.toNat = (l.take j.toNat).eraseIdx i.toNat ++ [b] := by
        by_cases hlt : i.toNat < j.toNat
        · exact erase_take_lt hbj hlt
        · rw [erase_take_ge (by omega), erase_take_ge (by omega), take_next hbj]
      rw [hE, pxs_app, pxs_app]
      have B := hb24.at
      have A14 := (hb14.keepQ (q4.tr q24)).at
      refine B.ld (j := 0) rfl (A14.ld (j := 0) rfl (B.ld (j := 0) rfl ?_))
      obtain ⟨f1, c1⟩ := dif_fld ha hob.1
      obtain ⟨f2, c2⟩ := dif_fld hoa.1 hob.1
      have m1 := mul_lt hu f1
      have m2 := mul_lt hd f2
      rw [w64 (x := up * _) (by omega) (by omega), w64 (x := dn * _) (by omega) (by omega)]
      refine ⟨tmod_fld m1.1, tmod_fld m2.1, (cg.tmod m1.1).trans ?_, (cg.tmod m2.1).trans ?_, q4.tr q24⟩
      · refine (cu.mul c1).trans (cg.of ?_)
        simp only [pxs, Int.mul_one]
        rw [Int.mul_assoc]
      · refine (cd.mul c2).trans (cg.of ?_)
        simp only [pxs, Int.mul_one]
  · have hj : ¬ j < (s.len : Int) := of_decide_eq_false hj
    rw [List.take_of_length_le (by omega)] at cu cd
    refine (power_c w4 dn 2147483645 hd (by decide) (by decide)).use ?_
    rintro r w8 ⟨hr, cr, rfl⟩
    have cr' : cg r (invp (pxs (l.eraseIdx i.toNat) a.x)) := cr.trans (cd.invp)
    have m1 := mul_lt hu hr
    rw [w64 (x := up * r) (by omega) (by omega), w64 (x := sum + up * r) (by have := hf.1; omega) (by have := hf.2; omega), w64 (by omega) (by omega)]
    have h0 : 0 ≤ sum + up * r := by have := hf.1; omega
    refine ⟨⟨by (try dsimp only); omega, by (try dsimp only); omega, tmod_fld h0, ?_, q.tr q4⟩, by (try dsimp only); omega⟩
    refine (cg.tmod h0).trans ?_
    rw [toNat_succ i0, lagS]
    refine hc.add ((cu.mul cr').trans (cg.of ?_))
    unfold lagT
    rw [hai]

/-! ### agreeing -/
def AgreeP (l : List Pt) (k : Nat) : Prop := ∀ p ∈ l.drop k, cg (lag (l.take k) p.x) p.y
theorem agree_c (w : World) (s : Sl) (l : List Pt) (k : Int) (h : Rd w pt 2 s l) (hsc : s.len ≤ s.cap) (hl : l.length ≤ 1000) (ho : ∀ p ∈ l, Okp p) (hk : 0 ≤ k ∧ k ≤ 1000) :
    callC Try.prog 33 #[s.v, .int .i64 k] (fun (r : Bool) => .bool r) w fun r w' => (r = true ↔ AgreeP l k.toNat) ∧ Quiet w w' := by
  have hsl := h.len
  refine D33 _ _ w _ ?_
  unfold F33
  refine ⟨fun i w' => k ≤ i ∧ (i ≤ l.length ∨ i = k) ∧ (∀ (j : Nat) (p : Pt), k ≤ j → (j : Int) < i → l[j]? = some p → cg (lag (l.take k.toNat) p.x) p.y) ∧ Quiet w w', fun i _ => (l.length - i).toNat, ⟨Int.le_refl _, .inr rfl, fun j p h1 h2 => by omega, Only.refl _ _⟩, ?_⟩
  rintro i w1 ⟨i0, i1, hn, q⟩
  refine ⟨fun hi => ?_, fun hi => ?_⟩
  rotate_left
  · have hi : ¬ i < (s.len : Int) := of_decide_eq_false hi
    refine ⟨⟨fun _ p hp => ?_, fun _ => rfl⟩, q⟩
    obtain ⟨j, hj⟩ := List.getElem?_of_mem hp
    rw [List.getElem?_drop] at hj
    have := (List.getElem?_eq_some_iff.1 hj).1
    exact hn _ p (by omega) (by omega) hj
  have hi : i < (s.len : Int) := of_decide_eq_true hi
  have i00 : 0 ≤ i := by omega
  obtain ⟨a, hai⟩ := getq (l := l) i00 (by omega)
  have hoa := ho a (List.mem_of_getElem? hai)
  refine jn.mk (fun r w' => (r = false ↔ cg (lag (l.take k.toNat) a.x) a.y) ∧ Quiet w w') ?_ ?_
  · show tk _ _
    unfold tk
    replace q := q.tr (Only.drew (fun _ => False) _)
    have h := h.keepQ q
    refine h.ixx i00 hai fun p1 hat1 hp1 => hat1.ld (j := 0) rfl (h.ixx i00 hai fun p2 hat2 hp2 => hat2.ld (j := 1) rfl ?_)
    refine rn_upto apS h hsc hk.1 (by omega) fun r17 h17 _ _ => ⟨hat2.cj (j := 1) rfl, hat1.cj (j := 0) rfl, ?_⟩
    refine (value_c _ r17 (l.take k.toNat) a.x h17 (by rw [List.length_take]; omega) (fun p hp => ho p (List.mem_of_mem_take hp)) hoa.1).use ?_
    rintro r w4 ⟨fr, cr, q4⟩
    refine ⟨(hat2.keep q4 id).cj (j := 1) rfl, ?_, q.tr q4⟩
    rw [Bool.not_eq_false', decide_eq_true_eq]
    constructor
    · intro e
      exact cr.symm.trans (cg.of e)
    · intro e
      exact fld_eq (cr.trans e) fr hoa.2
  rintro r w5 ⟨hr, q5⟩
  refine ⟨fun g => ⟨⟨fun e => (by cases e), fun e => ?_⟩, q5⟩, fun g => ?_⟩
  · have : cg (lag (l.take k.toNat) a.x) a.y := e a (by
      refine List.mem_iff_getElem?.2 ⟨i.toNat - k.toNat, ?_⟩
      rw [List.getElem?_drop, show k.toNat + (i.toNat - k.toNat) = i.toNat by omega]
      exact hai)
    rw [hr.2 this] at g
    cases g
  · rw [w64 (by omega) (by omega)]
    refine ⟨⟨by omega, by omega, ?_, q5⟩, by (try dsimp only); omega⟩
    intro j p h1 h2 hp
    by_cases e : (j : Int) < i
    · exact hn j p h1 e hp
    · have : j = i.toNat := by omega
      subst this
      rw [hai] at hp
      injection hp with hp
      subst hp
      exact hr.1 g

/-! ### right shares -/
def InR (s : Pt) : Prop := (1 ≤ s.x ∧ s.x ≤ 20) ∧ Fld s.y
instance (s : Pt) : Decidable (InR s) := by unfold InR; infer_instance
def WrongP (l : List Pt) (k : Int) : Int := if k < 1 ∨ 20 < k then 1 else if ¬ (∀ s ∈ l, InR s) then 1 else if ¬ (l.map Pt.x).Nodup then 5 else 0
def seenM (l : List Pt) : Int → Option Bool := fun x => if x ∈ l.map Pt.x then some true else none
theorem seenM_snoc (l : List Pt) (s : Pt) : mset (seenM l) s.x true = seenM (l ++ [s]) := by
  funext x
  unfold mset seenM
  simp only [List.map_append, List.mem_append, List.map_cons, List.map_nil, List.mem_singleton]
  by_cases e : x = s.x
  · simp [e]
  · simp [e]
theorem seenM_nil : seenM [] = mnone := by
  funext x
  simp [seenM, mnone]
theorem valid_c (w : World) (s : Sl) (l : List Pt) (k : Int) (h : Rd w pt 2 s l) (hl : l.length ≤ 1000) :
    callC Try.prog 31 #[s.v, .int .i64 k] (fun (r : Int) => .int .i64 r) w fun r w' => r = WrongP l k ∧ Quiet w w' := by
  have hsl := h.len
  refine D31 _ _ w _ ?_
  unfold F31 WrongP
  refine ⟨fun g => ?_, fun g => ?_⟩
  · rw [Bool.or_eq_true, decide_eq_true_eq, decide_eq_true_eq] at g
    rw [if_pos g]
    exact ⟨rfl, Only.refl _ _⟩
  have g : ¬ (k < 1 ∨ 20 < k) := by
    rw [Bool.or_eq_false_iff, decide_eq_false_iff_not, decide_eq_false_iff_not] at g
    omega
  rw [if_neg g]
  refine rn_makeMap (α := Int) (β := Bool) (ek := Value.int .i64) (ev := Value.bool) (fun _ => rfl) fun mb w1 hm q1 g1 l1 _ => ?_
  refine ⟨fun (c : Bool × Int) w' => 0 ≤ c.2 ∧ c.2 ≤ l.length ∧ (∀ p ∈ l.take c.2.toNat, InR p) ∧ (c.1 = true ↔ ¬ ((l.take c.2.toNat).map Pt.x).Nodup) ∧ Mp (Value.int .i64) Value.bool w' mb (seenM (l.take c.2.toNat)) ∧ Quiet w w', fun c _ => (l.length - c.2).toNat, ⟨by simp, by simp, by simp, by simp, by rw [show l.take (0 : Int).toNat = [] from rfl, seenM_nil]; exact hm, q1⟩, ?_⟩
  rintro ⟨tw, i⟩ w2 ⟨i0, i1, hin, htw, hm2, q⟩
  dsimp only at i0 i1 hin htw hm2 ⊢
  refine ⟨fun hi => ?_, fun hi => ?_⟩
  rotate_left
  · have hi : ¬ i < (s.len : Int) := of_decide_eq_false hi
    rw [List.take_of_length_le (by omega)] at hin htw
    rw [if_neg (fun c => c hin)]
    refine ⟨fun g => ?_, fun g => ?_⟩
    · rw [if_pos (htw.1 g)]
      exact ⟨rfl, q⟩
    · have : (l.map Pt.x).Nodup := Classical.byContradiction fun c => by
        rw [htw.2 c] at g
        cases g
      rw [if_neg (fun c => c this)]
      exact ⟨rfl, q⟩
  have hi : i < (s.len : Int) := of_decide_eq_true hi
  obtain ⟨x, hx⟩ := getq (l := l) i0 (by omega)
  refine (h.keepQ q).ixx i0 hx fun p hat _ => pt_ld hat (pt_box fun b18 w4 hb18 q18 g18 _ => ?_)
  replace q := q.tr q18
  have B := hb18.at
  refine B.ld (j := 0) rfl (jp_or (v := decide (20 < x.x)) (fun _ J hJ => B.ld (j := 0) rfl hJ) ?_)
  refine jn.mk (fun r w' => (r = false ↔ InR x) ∧ w4 = w') ⟨fun g => ⟨⟨fun e => (by cases e), fun e => ?_⟩, rfl⟩, fun g => B.ld (j := 1) rfl (use_same (fright_c w4 x.y) ⟨?_, rfl⟩)⟩ ?_
  · rw [Bool.or_eq_true, decide_eq_true_eq, decide_eq_true_eq] at g
    have := e.1
    omega
  · rw [Bool.or_eq_false_iff, decide_eq_false_iff_not, decide_eq_false_iff_not] at g
    rw [Bool.not_eq_false', decide_eq_true_eq]
    exact ⟨fun e => ⟨by omega, e⟩, fun e => e.2⟩
  rintro c29 w6 ⟨hc, rfl⟩
  refine ⟨fun g => ?_, fun g => ?_⟩
  · rw [if_pos (fun c => ?_)]
    · exact ⟨rfl, q⟩
    · have := hc.2 (c x (List.mem_of_getElem? hx))
      rw [g] at this
      cases this
  have hX := hc.1 g
  have hm4 := hm2.keepQ q18
  have htk := take_next hx
  refine jn.mk (fun r w' => (r = true ↔ ¬ ((l.take (i.toNat + 1)).map Pt.x).Nodup) ∧ w4 = w') ⟨fun e => ⟨⟨fun _ c => ?_, fun _ => rfl⟩, rfl⟩, fun e => B.ld (j := 0) rfl (rn_look1 (z := false) x.x hm4 uMap k3b zvB ((seenM (l.take i.toNat) x.x).getD false) rfl ⟨?_, rfl⟩)⟩ ?_
  · refine htw.1 e ?_
    rw [htk, List.map_append] at c
    exact (List.nodup_append.1 c).1
  · have hnd : ((l.take i.toNat).map Pt.x).Nodup := Classical.byContradiction fun c => by
      rw [htw.2 c] at e
      cases e
    rw [htk, List.map_append, List.nodup_append]
    unfold seenM
    by_cases hmem : x.x ∈ (l.take i.toNat).map Pt.x
    · rw [if_pos hmem]
      refine ⟨fun _ c => c.2.2 x.x hmem x.x (by simp) rfl, fun _ => rfl⟩
    · rw [if_neg hmem]
      refine ⟨fun e => (by cases e), fun c => absurd ⟨hnd, by simp, fun y hy z hz e => ?_⟩ c⟩
      simp at hz
      subst hz
      exact hmem (e ▸ hy)
  rintro c35 w8 ⟨htw', rfl⟩
  refine B.ld (j := 0) rfl (rn_mset x.x true hm4 uMap k3b fun w9 m9 on9 _ => ?_)
  rw [w64 (by omega) (by omega)]
  refine ⟨⟨by (try dsimp only); omega, by (try dsimp only); omega, ?_, ?_, ?_, q.new on9 fun b e => by omega⟩, by (try dsimp only); omega⟩
  · rw [toNat_succ i0, htk]
    intro p hp
    rcases List.mem_append.1 hp with e | e
    · exact hin p e
    · rw [List.mem_singleton.1 e]
      exact hX
  · rw [toNat_succ i0]
    exact htw'
  · rw [toNat_succ i0, htk, ← seenM_snoc]
    exact m9
theorem InR.okp {s : Pt} (h : InR s) : Okp s := ⟨⟨by have := h.1.1; omega, h.1.2⟩, h.2⟩
theorem wrong0 {l : List Pt} {k : Int} (h : WrongP l k = 0) : (1 ≤ k ∧ k ≤ 20) ∧ (∀ s ∈ l, InR s) ∧ (l.map Pt.x).Nodup := by
  unfold WrongP at h
  split at h
  · cases h
  · split at h
    · cases h
    · split at h
      · cases h
      · rename_i h1 h2 h3
        exact ⟨by omega, Classical.byContradiction h2, Classical.byContradiction h3⟩
theorem cg_small {a b : Int} (h : cg a b) (ha : 0 ≤ a ∧ a ≤ 20) (hb : 0 ≤ b ∧ b ≤ 20) : a = b := h.eq ha.1 (by omega) hb.1 (by omega)
theorem dis_of {l : List Pt} (h : ∀ s ∈ l, Okp s) (hn : (l.map Pt.x).Nodup) : Dis l := by
  have h1 : l.Pairwise fun a b => a.x ≠ b.x := List.pairwise_map.1 (List.nodup_iff_pairwise_ne.1 hn)
  exact h1.imp_of_mem fun ha hb hne e => hne (cg_small e (h _ ha).1 (h _ hb).1)

/-! ### joining -/
def JoinR (l : List Pt) (k : Int) (r : Int × Int) : Prop :=
  WrongP l k ≠ 0 ∧ r = (0, WrongP l k) ∨ WrongP l k = 0 ∧ ((l.length : Int) < k ∧ r = (0, 20) ∨ k ≤ l.length ∧ (¬ AgreeP l k.toNat ∧ r = (0, 18) ∨ AgreeP l k.toNat ∧ Fld r.1 ∧ cg r.1 (lag (l.take k.toNat) 0) ∧ r.2 = 0))
theorem join_c (w : World) (s : Sl) (l : List Pt) (k : Int) (h : Rd w pt 2 s l) (hsc : s.len ≤ s.cap) (hl : l.length ≤ 1000) :
    callC Try.prog 28 #[s.v, .int .i64 k] (fun (r : Int × Int) => .tuple #[.int .i64 r.1, .int .i64 r.2]) w fun r w' => JoinR l k r ∧ Quiet w w' := by
  have hsl := h.len
  refine D28 _ _ w _ ?_
  unfold F28
  refine (valid_c w s l k h hl).use ?_
  rintro _ w1 ⟨rfl, q1⟩
  refine ⟨fun g => ⟨.inl ⟨nd g, rfl⟩, q1⟩, fun g => ?_⟩
  have g := nt g
  obtain ⟨hk, hin, hnd⟩ := wrong0 g
  have hok : ∀ p ∈ l, Okp p := fun p hp => (hin p hp).okp
  refine ⟨fun g1 => ⟨.inr ⟨g, .inl ⟨by have := of_decide_eq_true g1; omega, rfl⟩⟩, q1⟩, fun g1 => ?_⟩
  have g1 : k ≤ l.length := by have := of_decide_eq_false g1; omega
  refine (agree_c w1 s l k (h.keepQ q1) hsc hl hok (by omega)).use ?_
  rintro r12 w2 ⟨hr, q2⟩
  replace q1 := q1.tr q2
  refine ⟨fun g2 => ⟨.inr ⟨g, .inr ⟨g1, .inl ⟨fun c => ?_, rfl⟩⟩⟩, q1⟩, fun g2 => ?_⟩
  · rw [hr.2 c] at g2
    cases g2
  refine rn_upto apS (h.keepQ q1) hsc (by omega) g1 fun r14 h14 _ _ => ?_
  refine (value_c w2 r14 (l.take k.toNat) 0 h14 (by rw [List.length_take]; omega) (fun p hp => hok p (List.mem_of_mem_take hp)) (by decide)).use ?_
  rintro r w4 ⟨f, c, q4⟩
  exact ⟨.inr ⟨g, .inr ⟨g1, .inr ⟨hr.1 (by simpa using g2), f, c, rfl⟩⟩⟩, q1.tr q4⟩
def FitsR (l : List Pt) (k x : Int) : Prop := WrongP l k = 0 ∧ Fld x ∧ AgreeP (⟨0, x⟩ :: l) k.toNat
theorem fits_c (w : World) (s : Sl) (l : List Pt) (k x : Int) (h : Rd w pt 2 s l) (hl : l.length ≤ 900) :
    callC Try.prog 19 #[s.v, .int .i64 k, .int .i64 x] (fun (r : Bool) => .bool r) w fun r w' => (r = true ↔ FitsR l k x) ∧ Quiet w w' := by
  refine D19 _ _ _ w _ ?_
  unfold F19
  refine (valid_c w s l k h (by omega)).use ?_
  rintro _ w1 ⟨rfl, q1⟩
  refine jn_orW (W := w1) (v := !decide (Fld x)) (Only.refl _ _) (fun _ => use_same (fright_c w1 x) ⟨rfl, Only.refl _ _⟩) fun w3 q3 => ?_
  replace q1 := q1.tr q3
  refine ⟨fun g => ⟨⟨fun e => (by cases e), fun e => ?_⟩, q1⟩, fun g => ?_⟩
  · rw [decide_eq_true e.1, decide_eq_true e.2.1] at g
    cases g
  rw [Bool.or_eq_false_iff, Bool.not_eq_false', Bool.not_eq_false', decide_eq_true_eq, decide_eq_true_eq] at g
  obtain ⟨g, hx⟩ := g
  obtain ⟨hk, hin, hnd⟩ := wrong0 g
  refine nwL fun b15 w4 hb15 q15 g15 _ _ => ?_
  have ho : OwnF w4 (fun y => y = b15) 56 2 (⟨some ⟨b15, 0, none⟩, 1, 1⟩ : Sl) ([(⟨0, x⟩ : Pt)].flatMap pt) := own_row (n := 1) (sz := 2) hb15 rfl (by decide)
  refine ho.app apS (h.keepQ (q1.tr q15)) pt_len (by decide) pt_one (by unfold maxLen; simp; omega) (by simp; omega) fun r16 w5 F' o5 _ st => ?_
  rw [← List.flatMap_append] at o5
  have q5 : Quiet w w5 := (q1.tr q15).new st.only fun b e => by
    have := q1.size
    omega
  refine (agree_c w5 r16 (⟨0, x⟩ :: l) k (o5.rd pt_len (by decide)) o5.cap (by simp; omega) (fun p hp => ?_) (by omega)).use ?_
  · rcases List.mem_cons.1 hp with e | e
    · rw [e]
      exact ⟨by simp, hx⟩
    · exact (hin p e).okp
  rintro r w6 ⟨hr, q6⟩
  refine ⟨?_, q5.tr q6⟩
  rw [hr]
  exact ⟨fun e => ⟨g, hx, e⟩, fun e => e.2.2⟩

/-! ### splitting -/
def nextS (x : Int) : Int := (1103515245 * x + 12345) % 2147483648
def seedS (s : Int) : Int := s % 2147483648
/-- the factors behind the secret -/
def facS (x : Int) : Nat → List Int
  | 0 => []
  | n + 1 => nextS x % 2147483647 :: facS (nextS x) n
def iterS (x : Int) : Nat → Int
  | 0 => x
  | n + 1 => nextS (iterS x n)
theorem facS_len : ∀ (n : Nat) (x : Int), (facS x n).length = n
  | 0, _ => rfl
  | n + 1, x => by rw [facS, List.length_cons, facS_len n]
theorem iterS_front : ∀ (n : Nat) (x : Int), iterS x (n + 1) = iterS (nextS x) n
  | 0, _ => rfl
  | n + 1, x => by rw [iterS, iterS_front n x, iterS]
theorem facS_snoc : ∀ (n : Nat) (x : Int), facS x (n + 1) = facS x n ++ [iterS x (n + 1) % 2147483647]
  | 0, _ => rfl
  | n + 1, x => by
    rw [facS, facS_snoc n (nextS x), facS, List.cons_append, iterS_front (n + 1) x]
def shAt (secret : Int) (k : Nat) (seed : Int) (i : Nat) : Pt := ⟨(i : Int) + 1, evp (secret :: facS (seedS seed) (k - 1)) ((i : Int) + 1) % 2147483647⟩
def splP (secret : Int) (k n : Nat) (seed : Int) : List Pt := (List.range n).map (shAt secret k seed)
def okSplit (secret k n : Int) : Prop := Fld secret ∧ (1 ≤ n ∧ n ≤ 20) ∧ 1 ≤ k ∧ k ≤ n
instance (a b c : Int) : Decidable (okSplit a b c) := by unfold okSplit; infer_instance
theorem seed_eq (x : Int) : (IntKind.i64.wrap ((x.tmod 2147483648) + 2147483648)).tmod 2147483648 = seedS x := by
  have h1 : x.tmod 2147483648 = x % 2147483648 ∨ x.tmod 2147483648 = x % 2147483648 - 2147483648 := by
    rcases Int.le_total 0 x with h | h
    · exact .inl (Int.tmod_eq_emod_of_nonneg h)
    · have h2 : (-x).tmod 2147483648 = (-x) % 2147483648 := Int.tmod_eq_emod_of_nonneg (by omega)
      rw [Int.neg_tmod] at h2
      omega
  have h3 := Int.emod_nonneg x (show (2147483648 : Int) ≠ 0 by decide)
  have h4 := Int.emod_lt_of_pos x (show (0 : Int) < 2147483648 by decide)
  unfold seedS
  rw [w64 (by omega) (by omega), Int.tmod_eq_emod_of_nonneg (by omega)]
  omega
theorem next_eq {x : Int} (h0 : 0 ≤ x) (h1 : x < 2147483648) : (IntKind.i64.wrap ((IntKind.i64.wrap (1103515245 * x)) + 12345)).tmod 2147483648 = nextS x := by
  unfold nextS
  rw [w64 (x := 1103515245 * x) (by omega) (by omega), w64 (by omega) (by omega), Int.tmod_eq_emod_of_nonneg (by omega)]
theorem nextS_lt (x : Int) : 0 ≤ nextS x ∧ nextS x < 2147483648 := by
  unfold nextS
  omega
theorem seedS_lt (x : Int) : 0 ≤ seedS x ∧ seedS x < 2147483648 := by
  unfold seedS
  omega
theorem iterS_lt (s : Int) : ∀ n, 0 ≤ iterS (seedS s) n ∧ iterS (seedS s) n < 2147483648
  | 0 => seedS_lt s
  | n + 1 => nextS_lt _
theorem evp_app (x : Int) : ∀ (l m : List Int), evp (l ++ m) x = evp l x + x ^ l.length * evp m x
  | [], m => by simp [evp]
  | a :: l, m => by
    rw [List.cons_append, evp, evp, evp_app x l m, List.length_cons, Int.pow_succ]
    grind
theorem drop_evp {l : List Int} {i : Nat} {a : Int} (h : l[i]? = some a) (x : Int) : evp (l.drop i) x = a + x * evp (l.drop (i + 1)) x := by
  obtain ⟨hi, e⟩ := List.getElem?_eq_some_iff.1 h
  rw [List.drop_eq_getElem_cons hi, e, evp]
theorem split_c (w : World) (secret k n seed : Int) (hk64 : -9223372036854775808 ≤ k) :
    callC Try.prog 25 #[.int .i64 secret, .int .i64 k, .int .i64 n, .int .i64 seed] (fun (r : Sl × Int) => .tuple #[Sl.v r.1, .int .i64 r.2]) w fun r w' => (¬ okSplit secret k n → r = (Sl.nil, 1)) ∧ (okSplit secret k n → r.2 = 0 ∧ ∃ F, OwnF w' F 56 2 r.1 ((splP secret k.toNat n.toNat seed).flatMap pt) ∧ Fresh w w' F) ∧ Quiet w w' := by
  refine D25 _ _ _ _ w _ ?_
  unfold F25
  refine use_same (fright_c w secret) ⟨fun g => ?_, fun g => ?_⟩
  · simp only [Bool.or_eq_true, Bool.not_eq_true', decide_eq_true_eq, decide_eq_false_iff_not] at g
    have : ¬ okSplit secret k n := fun c => by
      obtain ⟨c1, c2, c3, c4⟩ := c
      rcases g with (((g | g) | g) | g) | g
      · exact g c1
      all_goals omega
    exact ⟨fun _ => rfl, fun c => absurd c this, Only.refl _ _⟩
  simp only [Bool.or_eq_false_iff, Bool.not_eq_false', decide_eq_true_eq, decide_eq_false_iff_not] at g
  obtain ⟨⟨⟨⟨g1, g2⟩, g3⟩, g4⟩, g5⟩ := g
  have hok : okSplit secret k n := ⟨g1, by omega, by omega, by omega⟩
  refine nwL fun b19 w2 hb19 q19 g19 _ l19 => ?_
  have o0 : OwnF w2 (fun y => y = b19) 3 1 (⟨some ⟨b19, 0, none⟩, 1, 1⟩ : Sl) ([secret].flatMap ci) := own_row (n := 1) (sz := 1) hb19 rfl (by decide)
  have f0 : Fresh w w2 (fun y => y = b19) := ⟨q19, fun b e => by omega⟩
  rw [seed_eq]
  refine ⟨fun (c : Int × Sl × Int) w' => 0 ≤ c.2.2 ∧ c.2.2 ≤ k - 1 ∧ c.1 = iterS (seedS seed) c.2.2.toNat ∧ ∃ F, OwnF w' F 3 1 c.2.1 ((secret :: facS (seedS seed) c.2.2.toNat).flatMap ci) ∧ Fresh w w' F, fun c _ => (k - 1 - c.2.2).toNat, ⟨by simp, by (try dsimp only); omega, rfl, _, by simpa [facS] using o0, f0⟩, ?_⟩
  rintro ⟨x, fs, i⟩ w3 ⟨i0, i1, hx, F, o3, f3⟩
  dsimp only at i0 i1 hx o3 ⊢
  subst hx
  have hil := iterS_lt seed i.toNat
  have hw : IntKind.i64.wrap (k - 1) = k - 1 := w64 (by omega) (by omega)
  rw [hw, next_eq hil.1 hil.2]
  have hr3 := o3.rd ci1 (by decide)
  have hr3l := hr3.len
  rw [List.length_cons, facS_len] at hr3l
  refine ⟨fun hi => ?_, fun hi => ?_⟩
  · have hi : i < k - 1 := of_decide_eq_true hi
    have hnl := nextS_lt (iterS (seedS seed) i.toNat)
    rw [Int.tmod_eq_emod_of_nonneg hnl.1]
    refine o3.push (news := ci (nextS (iterS (seedS seed) i.toNat) % 2147483647)) apI rfl rfl (by unfold maxLen; omega) (by omega) fun r23 w5 F' o5 _ st5 => ?_
    rw [w64 (by omega) (by omega)]
    refine ⟨⟨by (try dsimp only); omega, by (try dsimp only); omega, ?_, F', ?_, f3.stp st5⟩, by (try dsimp only); omega⟩
    · rw [toNat_succ i0]
      rfl
    · rw [toNat_succ i0, facS_snoc, ← List.cons_append, List.flatMap_append]
      simpa [iterS] using o5
  have hi : ¬ i < k - 1 := of_decide_eq_false hi
  have hik : i.toNat = k.toNat - 1 := by omega
  rw [hik] at o3 hr3 hr3l
  generalize hcs : secret :: facS (seedS seed) (k.toNat - 1) = cs at o3 hr3
  have hcl : cs.length = k.toNat := by
    rw [← hcs, List.length_cons, facS_len]
    omega
  have hcf : ∀ a ∈ cs, Fld a := by
    intro a ha
    rw [← hcs] at ha
    rcases List.mem_cons.1 ha with e | e
    · rw [e]
      exact g1
    · have key : ∀ (m : Nat) (x : Int), ∀ a ∈ facS x m, Fld a := by
        intro m
        induction m with
        | zero => intro x a ha; cases ha
        | succ m ih =>
          intro x a ha
          rw [facS] at ha
          rcases List.mem_cons.1 ha with e | e
          · rw [e]
            unfold Fld
            omega
          · exact ih _ a e
      exact key _ _ a e
  clear hb19 o0
  refine ⟨fun (c : Sl × Int) w' => 1 ≤ c.2 ∧ c.2 ≤ n + 1 ∧ Quiet w3 w' ∧ ∃ G, OwnF w' G 56 2 c.1 ((splP secret k.toNat (c.2.toNat - 1) seed).flatMap pt) ∧ Fresh w3 w' G, fun c _ => (n + 1 - c.2).toNat, ⟨by simp, by (try dsimp only); omega, Only.refl _ _, _, OwnF.nil _ _ _ _, Fresh.none _⟩, ?_⟩
  rintro ⟨out, at_⟩ w6 ⟨a0, a1, q6, G, o6, f6⟩
  dsimp only at a0 a1 o6 ⊢
  have hcs6 := hr3.keepQ q6
  refine ⟨fun hi => ?_, fun hi => ?_⟩
  rotate_left
  · have hi : ¬ at_ ≤ n := of_decide_eq_false hi
    rw [show at_.toNat - 1 = n.toNat by omega] at o6
    exact ⟨fun c => absurd hok c, fun _ => ⟨rfl, G, o6, f6.after f3.q⟩, f3.q.tr q6⟩
  have hi : at_ ≤ n := of_decide_eq_true hi
  have hatf : Fld at_ := by unfold Fld; omega
  refine ⟨fun (c : Int × Int) w' => -1 ≤ c.2 ∧ c.2 < k ∧ Fld c.1 ∧ cg c.1 (evp (cs.drop (c.2 + 1).toNat) at_) ∧ w6 = w', fun c _ => (c.2 + 1).toNat, ⟨by (try dsimp only); rw [w64 (by omega) (by omega)]; omega, by (try dsimp only); rw [w64 (by omega) (by omega)]; omega, fld0, ?_, rfl⟩, ?_⟩
  · dsimp only
    rw [w64 (by omega) (by omega), List.drop_of_length_le (by omega)]
    exact cg.refl 0
  rintro ⟨y, j⟩ w7 ⟨j0, j1, fy, cy, rfl⟩
  dsimp only at j0 j1 fy cy ⊢
  refine ⟨fun hj => ?_, fun hj => ?_⟩
  · have hj : 0 ≤ j := of_decide_eq_true hj
    obtain ⟨a, haj⟩ := getq (l := cs) hj (by omega)
    have hfa := hcf a (List.mem_of_getElem? haj)
    have m1 := mul_lt fy hatf
    have b1 := hfa.1
    have b2 := hfa.2
    refine hcs6.ixx hj haj fun p hat _ => hat.ld0 rfl ?_
    rw [w64 (x := y * at_) (by omega) (by omega), w64 (x := y * at_ + a) (by omega) (by omega), w64 (x := j - 1) (by omega) (by omega)]
    refine ⟨⟨by (try dsimp only); omega, by (try dsimp only); omega, tmod_fld (by omega), ?_, rfl⟩, by (try dsimp only); omega⟩
    refine (cg.tmod (by omega)).trans ?_
    rw [show (j - 1 + 1).toNat = j.toNat by omega, drop_evp haj]
    rw [show (j + 1).toNat = j.toNat + 1 by omega] at cy
    refine ((cy.mul (cg.refl at_)).add (cg.refl a)).trans (cg.of ?_)
    rw [Int.mul_comm, Int.add_comm]
  · have hj : ¬ 0 ≤ j := of_decide_eq_false hj
    rw [show (j + 1).toNat = 0 by omega, List.drop_zero] at cy
    have hsp : splP secret k.toNat (at_.toNat - 1 + 1) seed = splP secret k.toNat (at_.toNat - 1) seed ++ [⟨at_, y⟩] := by
      unfold splP
      rw [List.range_succ, List.map_append, List.map_singleton]
      congr 2
      unfold shAt
      rw [hcs, show ((at_.toNat - 1 : Nat) : Int) + 1 = at_ by omega]
      congr 1
      refine fld_eq ((cg.mod _).trans cy.symm) ?_ fy
      unfold Fld
      omega
    have ol := (o6.rd pt_len (by decide)).len
    have osl : (splP secret k.toNat (at_.toNat - 1) seed).length = at_.toNat - 1 := by simp [splP]
    rw [osl] at ol
    refine o6.push (news := pt ⟨at_, y⟩) apS rfl rfl (by unfold maxLen; omega) (by omega) fun r31 w9 G' o9 _ st9 => ?_
    have f9 := f6.stp st9
    rw [w64 (by omega) (by omega)]
    refine ⟨⟨by (try dsimp only); omega, by (try dsimp only); omega, f9.q, G', ?_, f9⟩, by (try dsimp only); omega⟩
    rw [show (at_ + 1).toNat - 1 = at_.toNat - 1 + 1 by omega, hsp, List.flatMap_append]
    simpa using o9
end Go.Proofs.Ytmnhehklhelpeaa
