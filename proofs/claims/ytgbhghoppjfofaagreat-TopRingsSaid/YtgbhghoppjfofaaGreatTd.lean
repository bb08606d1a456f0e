import Derived.Test.YtgbhghoppjfofaaGreatTc
import Derived.Test.YtgbhghoppjfofaaGreatShlf
namespace Go.Proofs.YtgbhghoppjfofaaGreat
open Go.Dec Go.RowKit Go.Top Go.Shelf
set_option maxHeartbeats 400000
set_option maxRecDepth 10000

theorem kI : KeyOK Tryz.prog 3 (.int .i64) (Value.int .i64) := keyOK_int (by kernel_rfl)
theorem uMIB : Tryz.prog.underlying 78 = some (.map 3 4) := by kernel_rfl
theorem zvB : (Tryz.prog.info? 4).bind (·.zero) = some (.bool false) := by kernel_rfl
theorem apD : appOK Tryz.prog 121 125 5 40 = true := by kernel_rfl
/-! ### jobs -/
structure JobsOK (l : List Jb) : Prop where
  rng : ∀ j ∈ l, 0 ≤ j.id ∧ (1 ≤ j.size ∧ j.size ≤ 1099511627776) ∧ (0 ≤ j.due ∧ j.due ≤ 1073741824)
  nd : l.Pairwise fun a b => a.id ≠ b.id
  len : l.length ≤ 1000
def mj (l : List Jb) : Int → Option Bool := fun x => if l.any (fun j => decide (j.id = x)) then some true else none
theorem mj_nil : mj [] = mnone := by
  funext x
  simp [mj, mnone]
theorem mj_add (l : List Jb) (j : Jb) : mset (mj l) j.id true = mj (l ++ [j]) := by
  funext x
  unfold mj mset
  rw [List.any_append]
  by_cases e : x = j.id
  · subst e
    simp
  · rw [if_neg e]
    simp [show ¬ j.id = x from fun h => e h.symm]
theorem valid_c (w : World) (s : Sl) (l : List Jb) (h : Rd w jbc 3 s l) (ok : JobsOK l) : callC Tryz.prog 84 #[s.v] (fun (r : Bool) => .bool r) w fun r w' => r = true ∧ Quiet w w' := by
  have hsl := h.len
  have hl := ok.len
  refine D84 _ w _ ?_
  unfold F84
  refine rn_makeMap (α := Int) (β := Bool) (ek := Value.int .i64) (ev := Value.bool) (fun _ => rfl) fun mb w1 hm q1 g1 l1 _ => ?_
  refine ⟨fun i w' => 0 ≤ i ∧ i ≤ l.length ∧ Mp (Value.int .i64) Value.bool w' mb (mj (l.take i.toNat)) ∧ Quiet w w', fun i _ => (l.length - i).toNat, ⟨by omega, by omega, ?_, q1⟩, ?_⟩
  · rw [show ((0 : Int).toNat) = 0 from rfl, List.take_zero, mj_nil]
    exact hm
  rintro i w2 ⟨i0, i1, m2, q2⟩
  refine ⟨fun hi => ?_, fun hi => ⟨?_, q2⟩⟩
  · have hlt : i < l.length := by rw [hsl] at hi; exact of_decide_eq_true hi
    obtain ⟨x, hx⟩ := getq i0 hlt
    obtain ⟨r1, r2, r3⟩ := ok.rng x (List.mem_of_getElem? hx)
    refine (h.keepQ q2).ixx i0 hx fun p hat _ => jbc_ld hat (jbc_box (x := x) fun b w3 hb q3 _ _ => ?_)
    have A := hb.at
    have hnew : (mj (l.take i.toNat) x.id).getD false = false := by
      unfold mj
      rw [if_neg]
      · rfl
      · rw [Bool.not_eq_true, List.any_eq_false]
        intro y hy
        obtain ⟨j, hj, rfl⟩ := List.getElem_of_mem hy
        obtain ⟨hi, rfl⟩ := List.getElem?_eq_some_iff.1 hx
        rw [List.length_take] at hj
        rw [List.getElem_take]
        have := List.pairwise_iff_getElem.1 ok.nd j i.toNat (by omega) hi (by omega)
        simp [this]
    refine A.ld (j := 0) rfl (jn.mk (fun c w' => c = false ∧ w' = w3) ⟨fun e => ?_, fun _ => A.ld (j := 0) rfl (rn_look1 (z := false) x.id (m2.keepQ q3) uMIB kI zvB false (by rw [hnew]) ⟨rfl, rfl⟩)⟩ ?_)
    · have := of_decide_eq_true e
      omega
    rintro c w4 ⟨rfl, rfl⟩
    refine jp_or (v := decide (x.size < 1)) (fun _ J hJ => A.ld (j := 1) rfl hJ) (jp_or (v := decide (1099511627776 < x.size)) (fun _ J hJ => A.ld (j := 1) rfl hJ) (jp_or (v := decide (x.due < 0)) (fun _ J hJ => A.ld (j := 2) rfl hJ) (jp_or (v := decide (1073741824 < x.due)) (fun _ J hJ => A.ld (j := 2) rfl hJ) ?_)))
    rw [decide_eq_false (show ¬ x.size < 1 by omega), decide_eq_false (show ¬ 1099511627776 < x.size by omega), decide_eq_false (show ¬ x.due < 0 by omega), decide_eq_false (show ¬ 1073741824 < x.due by omega)]
    refine ⟨fun e => (by simp at e), fun _ => A.ld (j := 0) rfl (rn_mset x.id true (m2.keepQ q3) uMIB kI fun w5 m5 on5 s5 => ?_)⟩
    rw [w64 (by omega) (by omega)]
    refine ⟨⟨by omega, by omega, ?_, (q2.tr q3).new on5 fun y e => by omega⟩, by (try dsimp only); omega⟩
    rw [toNat_succ i0, take_next hx, ← mj_add]
    exact m5
  · exact decide_eq_true (by omega)
/-! ### sorting jobs -/
instance : Inhabited Jb := ⟨⟨0, 0, 0⟩⟩
theorem dem1_c (w : World) (x y : Jb) : callC Tryz.prog 87 #[jbcv x, jbcv y] (fun (r : Int) => .int .i64 r) w fun r w' => r = cmp2 x.due y.due x.id y.id ∧ Gr w w' := by
  refine D87 _ _ _ _ _ _ w _ ?_
  unfold F87
  refine nwG fun b1 w1 hb1 g1 _ _ => nwG fun b2 w2 hb2 g2 _ _ => ?_
  have A : ∀ w', Quiet w2 w' → AtC w' (Addr.mk b1 0 none) (jbc x) := fun w' q => IsJb.at (Blk.keepQ hb1 (g2.1.tr q))
  have B : ∀ w', Quiet w2 w' → AtC w' (Addr.mk b2 0 none) (jbc y) := fun w' q => IsJb.at (Blk.keepQ hb2 q)
  refine jn.mk (fun r w' => r = cmp2 x.due y.due x.id y.id ∧ Gr w w') ?_ fun r w' h => h
  show tk _ _
  unfold tk
  have gd := Gr.drew w2
  refine (A _ gd.1).ld (j := 2) rfl ((B _ gd.1).ld (j := 2) rfl ((A _ gd.1).ld (j := 0) rfl ((B _ gd.1).ld (j := 0) rfl ?_)))
  refine use_same (compare_c _ _ _) ⟨(B _ gd.1).cj (j := 0) rfl, (A _ gd.1).cj (j := 0) rfl, use_same (compare_c _ _ _) ?_⟩
  refine nwG fun b3 w3 hb3 g3 _ _ => (or_c w3 _ (cmpI x.due y.due) (cmpI x.id y.id) (ints_row hb3 rfl rfl)).use ?_
  rintro r w4 ⟨rfl, rfl⟩
  exact ⟨rfl, ((g1.trans g2).trans gd).trans g3⟩
theorem sortJ_c (w : World) (F : Nat → Prop) (s : Sl) (l : List Jb) (h : OwnF w F 103 3 s (l.flatMap jbc)) (hl : l.length ≤ 1000) :
    callC Tryz.prog 86 #[s.v, .func (.func 87) #[] #[]] (fun (_ : Unit) => .tuple #[]) w fun _ w' => ∃ l' : List Jb, l'.Perm l ∧ l'.Pairwise (fun a b => a.due ≤ b.due) ∧ OwnF w' F 103 3 s (l'.flatMap jbc) ∧ Only F w w' := by
  have := sortK_c Tryz.sortJ Tryz.isAgg103 Tryz.sizeOf103 jbc_len (by decide) (fun x v hv => List.all_eq_true.1 (jbc_one x) v hv) (swo2 (fun x : Jb => x.due) (fun x : Jb => x.id)) (g := 87) (cb := #[]) (enters_of Tryz.func87 (by kernel_rfl) rfl) h (by omega) fun w1 _ x y => by
    refine Calls.mono (dem1_c w1 x y) ?_
    rintro e w' ⟨r, rfl, rfl, hg⟩
    exact ⟨rfl, hg⟩
  refine Calls.mono this ?_
  rintro e w' ⟨rfl, l', h1, h2, h3, h4⟩
  exact ⟨(), rfl, l', h1, h2.imp fun hh => le2 hh, h3, h4⟩

/-! ### what is asked for, and what is given -/
def dms (G : Int → Int) : Int → List Jb → List Dm
  | _, [] => []
  | k, x :: r => ⟨x, k + x.size, G x.due⟩ :: dms G (k + x.size) r
def jsum : List Jb → Int
  | [] => 0
  | x :: r => x.size + jsum r
theorem jsum_append : ∀ a b : List Jb, jsum (a ++ b) = jsum a + jsum b
  | [], b => by simp [jsum]
  | x :: r, b => by
    simp only [List.cons_append, jsum, jsum_append r b]
    omega
theorem dms_append (G : Int → Int) (x : Jb) : ∀ (a : List Jb) (k : Int), dms G k (a ++ [x]) = dms G k a ++ [⟨x, k + jsum a + x.size, G x.due⟩]
  | [], k => by simp [dms, jsum]
  | y :: r, k => by
    simp only [List.cons_append, dms, dms_append G x r (k + y.size), jsum]
    rw [show k + y.size + jsum r + x.size = k + (y.size + jsum r) + x.size by omega]
theorem dms_len (G : Int → Int) : ∀ (a : List Jb) (k : Int), (dms G k a).length = a.length
  | [], k => rfl
  | y :: r, k => by simp [dms, dms_len G r]
theorem jsum_le {n : Int} : ∀ {a : List Jb}, (∀ j ∈ a, 0 ≤ j.size ∧ j.size ≤ n) → 0 ≤ jsum a ∧ jsum a ≤ n * a.length
  | [], _ => by simp [jsum]
  | y :: r, h => by
    have h1 := h y (by simp)
    have h2 := jsum_le (a := r) fun j hj => h j (by simp [hj])
    simp only [jsum, List.length_cons]
    rw [show ((r.length + 1 : Nat) : Int) = (r.length : Int) + 1 by omega, Int.mul_add, Int.mul_one]
    omega
theorem gv_rng {a : Ap} (ok : OkA a) {now due : Int} (h0 : 0 ≤ now) (g1 : due ≤ 1073741824) : 0 ≤ gv a.rate a.window a.down now due ∧ gv a.rate a.window a.down now due ≤ 1152921504606846976 := by
  unfold gv
  split
  · omega
  · rename_i hlt
    have hd := dn_le (win := a.window) (down := a.down) (T := due - now) ok.lt (by omega)
    dsimp only
    have hr := ok.rate
    have h2 : 0 ≤ due - now - dn a.window a.down (due - now) ∧ due - now - dn a.window a.down (due - now) ≤ 1073741824 := by omega
    generalize due - now - dn a.window a.down (due - now) = n at h2 ⊢
    have h3 : a.rate * n ≤ 1073741824 * 1073741824 := Int.mul_le_mul hr.2 h2.2 h2.1 (by decide)
    have h4 : 0 ≤ a.rate * n := Int.mul_nonneg (by omega) h2.1
    unfold MP
    split <;> omega
theorem nw_and {t : TypeId} {cs : Array Value} {w : World} {A K : Nat → World → Prop} (ha : nw t cs w A) (hk : nw t cs w K) : nw t cs w fun b w1 => A b w1 ∧ K b w1 := fun b w' e1 e2 => ⟨ha b w' e1 e2, hk b w' e1 e2⟩
theorem rn_and {P : Program} {γ : Type} {m : Sem Value} {enc : γ → Value} {w : World} {A K : γ → World → Prop} (hi : ∀ x y, enc x = enc y → x = y) (ha : rn P m enc w A) (hk : rn P m enc w K) : rn P m enc w fun x w' => A x w' ∧ K x w' := by
  obtain ⟨x, w1, h1, a1⟩ := ha
  obtain ⟨y, w2, h2, k2⟩ := hk
  rw [h1] at h2
  injection h2 with e1 e2
  have := hi _ _ e1
  subst this e2
  exact ⟨x, w1, h1, a1, k2⟩
theorem demands_c (w : World) (a : Ap) (s t : Sl) (l : List Jb) (now : Int) (h : Rd w cb 1 s a.types) (hc : s.len ≤ s.cap) (hj : Rd w jbc 3 t l) (ok : JobsOK l) (h0 : 0 ≤ now) (h1 : now ≤ 1073741824) :
    callC Tryz.prog 69 #[pfv (pfOf a s), t.v, .int .i64 now] (fun (r : Sl × Bool) => .tuple #[r.1.v, .bool r.2]) w fun r w' => (CheckA a ≠ 0 → r.2 = false) ∧
      (CheckA a = 0 → r.2 = true ∧ ∃ (l' : List Jb) (F : Nat → Prop), l'.Perm l ∧ l'.Pairwise (fun a b => a.due ≤ b.due) ∧ OwnF w' F 125 5 r.1 ((dms (gv a.rate a.window a.down now) 0 l').flatMap dm)) ∧ Quiet w w' := by
  refine D69 _ _ _ _ _ _ _ _ _ _ _ _ _ _ _ _ _ _ _ _ _ _ _ _ w _ ?_
  unfold F69
  refine nwL fun b1 w1 hb1 q1 _ _ _ => ?_
  have hb : IsPf w1 b1 (pfOf a s) := hb1
  refine pf_ld hb.at ((check_c w1 a s (h.keepQ q1) hc).use ?_)
  rintro r w2 ⟨rfl, q2⟩
  refine jn.mk (fun c w' => c = decide (CheckA a ≠ 0) ∧ Quiet w1 w') ⟨fun g => ⟨?_, q2⟩, fun g => (valid_c w2 t l (hj.keepQ (q1.tr q2)) ok).use ?_⟩ ?_
  · rw [decide_eq_true (nd g)]
  · rintro r w3 ⟨rfl, q3⟩
    refine ⟨?_, q2.tr q3⟩
    rw [decide_eq_false (fun hn => hn (nt g))]
    rfl
  rintro c w4 ⟨rfl, q4⟩
  rw [decide_eq_false (show ¬ now < 0 by omega), decide_eq_false (show ¬ 1073741824 < now by omega), Bool.or_false, Bool.or_false]
  refine ⟨fun g => ⟨fun _ => rfl, fun e => absurd e (of_decide_eq_true g), q1.tr q4⟩, fun g => ?_⟩
  have okc : CheckA a = 0 := Decidable.not_not.1 (of_decide_eq_false g)
  have okA := check_ok okc
  have hl := ok.len
  refine (cloneJ_c w4 t l (hj.keepQ (q1.tr q4)) hl).use ?_
  rintro r42 w5 ⟨F, o5, f5⟩
  refine (sortJ_c w5 F r42 l o5 hl).use ?_
  rintro _ W ⟨l', hp, hs, o6, on6⟩
  have qW : Quiet w4 W := f5.q.new on6 fun x hx => (f5.b x hx).1
  have hbW := hb.keepQ (q4.tr qW)
  have qw : Quiet w W := (q1.tr q4).tr qW
  have hs' := h.keepQ qw
  have hr42 := o6.rd jbc_len (by decide)
  have hrl := hr42.len
  have hll : l'.length = l.length := hp.length_eq
  have hrng : ∀ j ∈ l', 0 ≤ j.size ∧ j.size ≤ 1099511627776 := fun j hj => by
    have := ok.rng j (hp.mem_iff.1 hj)
    omega
  refine ⟨fun c w' => 0 ≤ c.2.2 ∧ c.2.2 ≤ l'.length ∧ c.2.1 = jsum (l'.take c.2.2.toNat) ∧ ∃ Fo, OwnF w' Fo 125 5 c.1 ((dms (gv a.rate a.window a.down now) 0 (l'.take c.2.2.toNat)).flatMap dm) ∧ Fresh W w' Fo, fun c _ => (l'.length - c.2.2).toNat, ⟨Int.le_refl _, by dsimp only; omega, rfl, _, OwnF.nil _ (fun _ => False) _ _, Fresh.none W⟩, ?_⟩
  rintro ⟨out, needs, i⟩ w7 ⟨i0, i1, hneeds, Fo, o7, f7⟩
  dsimp only at i0 i1 hneeds o7 ⊢
  refine ⟨fun hi => ?_, fun hi => ⟨fun e => absurd okc e, fun _ => ⟨rfl, l', Fo, hp, hs, ?_⟩, qw.tr f7.q⟩⟩
  · have hlt : i < l'.length := by have := of_decide_eq_true hi; omega
    obtain ⟨x, hx⟩ := getq i0 hlt
    have hxm := List.mem_of_getElem? hx
    have hxr := ok.rng x (hp.mem_iff.1 hxm)
    have hj1 := jsum_le (a := l'.take i.toNat) (n := 1099511627776) fun j hj => hrng j (List.mem_of_mem_take hj)
    have htl : (l'.take i.toNat).length ≤ 1000 := by rw [List.length_take]; omega
    refine (hr42.keepQ f7.q).ixx i0 hx fun p hat _ => jbc_ld hat (jbc_box (x := x) fun b w9 hbx q9 g9 l9 => ?_)
    refine hbx.at.ld (j := 1) rfl ?_
    refine jn.mk (fun r w' => ∃ Fo, OwnF w' Fo 125 5 r ((dms (gv a.rate a.window a.down now) 0 (l'.take (i + 1).toNat)).flatMap dm) ∧ Fresh W w' Fo) ?_ ?_
    · show tk _ _
      unfold tk
      have qd : Quiet w9 w9.drew := Only.drew _ _
      have q79 := q9.tr qd
      have qWd := f7.q.tr q79
      refine jbc_ld (hbx.keepQ qd).at (pf_ld (hbW.keepQ qWd).at ((hbx.keepQ qd).at.ld (j := 2) rfl ((gives_c _ a s now x.due (hs'.keepQ qWd) hc okc h0 h1 hxr.2.2.1 hxr.2.2.2).use ?_)))
      rintro r w11 ⟨rfl, q11⟩
      have q7 := q79.tr q11
      have hb11 := hbx.keepQ (qd.tr q11)
      have hlw : w7.heap.size ≤ b := g9
      refine ⟨jbc_cj hb11.at, nw_and (nwL fun _ w12 _ q12 _ _ _ => jbc_cj (hb11.keepQ q12).at) ?_⟩
      rw [w64 (by omega) (by omega)]
      have hlen : out.len = i.toNat := by
        have := (o7.rd dm_len (by decide)).len
        rw [dms_len, List.length_take] at this
        omega
      refine OwnF.push (news := dm ⟨x, needs + x.size, gv a.rate a.window a.down now x.due⟩) apD (o7.keepQ q7) rfl rfl (by unfold maxLen; omega) (by omega) fun r w13 F' o13 _ st13 => ?_
      refine ⟨?_, F', ?_, (f7.keep q7).stp st13⟩
      · refine jbc_cj (x := x) (IsJb.at (Blk.keep hb11 st13.only fun hF => ?_))
        have := (f7.b b hF).2
        omega
      · rw [toNat_succ i0, take_next hx, dms_append, List.flatMap_append, List.flatMap_singleton, Int.zero_add, ← hneeds]
        exact o13
    rintro r w14 ⟨F', o14, f14⟩
    rw [w64 (by omega) (by omega), w64 (by omega) (by omega)]
    refine ⟨⟨by (try dsimp only); omega, by (try dsimp only); omega, ?_, F', o14, f14⟩, by (try dsimp only); omega⟩
    (try dsimp only)
    rw [toNat_succ i0, take_next hx, jsum_append, hneeds]
    simp only [jsum]
    omega
  · rw [List.take_of_length_le (by have := of_decide_eq_false hi; omega)] at o7
    exact o7
theorem PO_dms {G : Int → Int} : ∀ {l : List Jb} {k : Int}, PO G k l ↔ ∀ d ∈ dms G k l, d.needs ≤ d.gives
  | [], k => by simp [PO, dms]
  | x :: r, k => by
    have ih := PO_dms (G := G) (l := r) (k := k + x.size)
    simp only [PO, dms, List.mem_cons, forall_eq_or_imp, ih]
theorem plan_c (w : World) (a : Ap) (s t : Sl) (l : List Jb) (now : Int) (h : Rd w cb 1 s a.types) (hc : s.len ≤ s.cap) (hj : Rd w jbc 3 t l) (ok : JobsOK l) (h0 : 0 ≤ now) (h1 : now ≤ 1073741824) :
    callC Tryz.prog 46 #[pfv (pfOf a s), t.v, .int .i64 now] (fun (r : Sl × Int × Int) => .tuple #[r.1.v, .int .i64 r.2.1, .int .i64 r.2.2]) w fun r w' => (CheckA a ≠ 0 → r.2.2 ≠ 0) ∧
      (CheckA a = 0 → ∃ (l' : List Jb), l'.Perm l ∧ l'.Pairwise (fun a b => a.due ≤ b.due) ∧ ((PO (gv a.rate a.window a.down now) 0 l' ∧ r.2.2 = 0) ∨ (¬ PO (gv a.rate a.window a.down now) 0 l' ∧ r.2.2 ≠ 0))) ∧ Quiet w w' := by
  refine D46 _ _ _ _ _ _ _ _ _ _ _ _ _ _ _ _ _ _ _ _ _ _ _ _ w _ ?_
  unfold F46
  refine nwL fun b1 w1 hb1 q1 _ _ _ => ?_
  have hb : IsPf w1 b1 (pfOf a s) := hb1
  refine pf_ld hb.at ((demands_c w1 a s t l now (h.keepQ q1) hc (hj.keepQ q1) ok h0 h1).use ?_)
  rintro ⟨ds, yes⟩ W ⟨hno, hyes, q2⟩
  have qW := q1.tr q2
  dsimp only at hno hyes ⊢
  refine ⟨fun g => ⟨fun _ => (by decide), fun e => ?_, qW⟩, fun g => ?_⟩
  · obtain ⟨e1, _⟩ := hyes e
    rw [e1] at g
    cases g
  have okc : CheckA a = 0 := Decidable.byContradiction fun e => by
    rw [hno e] at g
    cases g
  obtain ⟨_, l', F, hp, hs, o⟩ := hyes okc
  have hd := o.rd dm_len (by decide)
  have hdl := hd.len
  rw [dms_len] at hdl
  have hll : l'.length = l.length := hp.length_eq
  have hl := ok.len
  refine ⟨fun c w' => 0 ≤ c.2 ∧ c.2 ≤ l'.length ∧ (∀ d ∈ (dms (gv a.rate a.window a.down now) 0 l').take c.2.toNat, d.needs ≤ d.gives) ∧ ∃ (Fo : Nat → Prop) (xs : List Int), OwnF w' Fo 3 1 c.1 (xs.flatMap ci) ∧ (xs.length : Int) = c.2 ∧ Fresh W w' Fo, fun c _ => (l'.length - c.2).toNat,
    ⟨Int.le_refl _, by dsimp only; omega, by simp, _, [], OwnF.nil _ (fun _ => False) _ _, rfl, Fresh.none W⟩, ?_⟩
  rintro ⟨out, i⟩ w3 ⟨i0, i1, hall, Fo, xs, o3, hxs, f3⟩
  dsimp only at i0 i1 hall o3 hxs ⊢
  refine ⟨fun hi => ?_, fun hi => ⟨fun e => absurd okc e, fun _ => ⟨l', hp, hs, .inl ⟨?_, rfl⟩⟩, qW.tr f3.q⟩⟩
  · have hlt : i < l'.length := by have := of_decide_eq_true hi; omega
    obtain ⟨x, hx⟩ := getq (l := dms (gv a.rate a.window a.down now) 0 l') i0 (by rw [dms_len]; exact hlt)
    refine (hd.keepQ f3.q).ixx i0 hx fun p hat _ => hat.ld (j := 0) rfl (hat.ld (j := 1) rfl (hat.ld (j := 2) rfl (hat.ld (j := 3) rfl (hat.ld (j := 4) rfl ?_))))
    refine box_all (vs := dm x) rfl fun b w5 hbx q5 g5 l5 => ?_
    have A : AtC w5 (Addr.mk b 0 none) (dm x) := fun j u hu => by
      rw [mk_add, Blk.cell hbx]
      simpa using hu
    refine A.ld (j := 3) rfl (A.ld (j := 4) rfl ⟨fun g => ?_, fun g => ?_⟩)
    · refine jn.mk (fun r w' => r.2.2 = 16 ∧ Quiet w5 w') ?_ ?_
      · show tk _ _
        unfold tk
        have A' : AtC w5.drew (Addr.mk b 0 none) (dm x) := fun j u hu => by
          rw [mk_add, Blk.cell (Blk.keepQ hbx (Only.drew _ _))]
          simpa using hu
        have := A'.ld (j := 0) (enc := Value.int .i64) (x := x.job.id) (K := fun _ => True) rfl trivial
        rw [add_add']
        exact A'.ld (j := 0) rfl ⟨rfl, Only.drew _ _⟩
      · rintro r w7 ⟨hr, q7⟩
        refine ⟨fun e => absurd okc e, fun _ => ⟨l', hp, hs, .inr ⟨fun hpo => ?_, by rw [hr]; decide⟩⟩, ((qW.tr f3.q).tr q5).tr q7⟩
        have := PO_dms.1 hpo x (List.mem_of_getElem? hx)
        have := of_decide_eq_true g
        omega
    · refine A.ld (j := 4) rfl (A.ld (j := 3) rfl (OwnF.push (news := ci (IntKind.i64.wrap (x.gives - x.needs))) apI (o3.keepQ q5) rfl rfl ?_ ?_ fun r w9 F' o9 _ st9 => ?_))
      · have := (o3.rd ci1 (by decide)).len
        unfold maxLen
        omega
      · have := (o3.rd ci1 (by decide)).len
        omega
      · rw [w64 (by omega) (by omega)]
        refine ⟨⟨by (try dsimp only); omega, by (try dsimp only); omega, ?_, F', xs ++ [IntKind.i64.wrap (x.gives - x.needs)], ?_, ?_, (f3.keep q5).stp st9⟩, by (try dsimp only); omega⟩
        · (try dsimp only)
          rw [toNat_succ i0, take_next hx]
          intro d hd
          rcases List.mem_append.1 hd with hd | hd
          · exact hall d hd
          · simp at hd
            subst hd
            have := of_decide_eq_false g
            omega
        · rw [List.flatMap_append, List.flatMap_singleton]
          exact o9
        · rw [List.length_append, List.length_singleton]
          (try dsimp only)
          omega
  · rw [List.take_of_length_le (by rw [dms_len]; have := of_decide_eq_false hi; omega)] at hall
    exact PO_dms.2 hall
end Go.Proofs.YtgbhghoppjfofaaGreat
