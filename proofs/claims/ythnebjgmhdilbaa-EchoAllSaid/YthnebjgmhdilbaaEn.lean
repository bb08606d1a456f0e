import Derived.Test.YthnebjgmhdilbaaObj
import Derived.Test.YthnebjgmhdilbaaFs1
import Derived.Test.YthnebjgmhdilbaaFs2
import Derived.Test.YthnebjgmhdilbaaFs3
namespace Go.Proofs.Ythnebjgmhdilbaa
open Go.Dec Go.RowKit
set_option maxHeartbeats 400000

def ci (i : Int) : List Value := [.int .i64 i]
theorem ci1 (i : Int) : (ci i).length = 1 := rfl
theorem cione (i : Int) : (ci i).all Value.oneCell' = true := rfl
theorem ap25 : appOK Try.prog 25 3 1 8 = true := by kernel_rfl
theorem ap22 : appOK Try.prog 22 30 5 40 = true := by kernel_rfl
theorem getq {α : Type} {l : List α} {i : Int} (h0 : 0 ≤ i) (h1 : i < l.length) : ∃ x, l[i.toNat]? = some x := ⟨_, List.getElem?_eq_getElem (by omega)⟩
theorem take_next {α : Type} {l : List α} {j : Nat} {x : α} (h : l[j]? = some x) : l.take (j + 1) = l.take j ++ [x] := by
  obtain ⟨hj, rfl⟩ := List.getElem?_eq_some_iff.1 h
  rw [List.take_succ_eq_append_getElem]
theorem bq {W w : World} (q : Quiet W w) : Below W.heap.size W w := q.below (Nat.le_refl _) fun _ e => e.elim

/-! ### messages -/
structure Cp where
  acc : Int
  grp : Int
  step : Int
  on : Int
  quote : Int
deriving DecidableEq
def cp (c : Cp) : List Value := [.int .i64 c.acc, .int .i64 c.grp, .int .i64 c.step, .int .i64 c.on, .int .i64 c.quote]
theorem cp5 (c : Cp) : (cp c).length = 5 := rfl
theorem cpone (c : Cp) : (cp c).all Value.oneCell' = true := rfl
def cpv (c : Cp) : Value := .agg #[.int .i64 c.acc, .int .i64 c.grp, .int .i64 c.step, .int .i64 c.on, .int .i64 c.quote]
def i64 (x : Int) : Prop := -9223372036854775808 ≤ x ∧ x ≤ 9223372036854775807
def okC (c : Cp) : Prop := i64 c.acc ∧ i64 c.grp ∧ i64 c.step ∧ i64 c.on ∧ i64 c.quote
theorem ld5 {w : World} {p : Addr} {c : Cp} {K : Int → Int → Int → Int → Int → Prop} (h : AtC w p (cp c)) (k : K c.acc c.grp c.step c.on c.quote) :
    ld (Value.int .i64) (p.add 0) w fun x0 => ld (Value.int .i64) (p.add 1) w fun x1 => ld (Value.int .i64) (p.add 2) w fun x2 => ld (Value.int .i64) (p.add 3) w fun x3 => ld (Value.int .i64) (p.add 4) w fun x4 => K x0 x1 x2 x3 x4 :=
  h.ld (j := 0) rfl (h.ld (j := 1) rfl (h.ld (j := 2) rfl (h.ld (j := 3) rfl (h.ld (j := 4) rfl k))))
def IsB (w : World) (b : Nat) (c : Cp) : Prop := Blk w b 30 (cp c).toArray
theorem IsB.at {w : World} {b : Nat} {c : Cp} (h : IsB w b c) : AtC w (Addr.mk b 0 none) (cp c) := fun j u hu => by
  unfold IsB at h
  rw [mk_add, h.cell]
  simpa using hu
theorem IsB.keepQ {w w' : World} {b : Nat} {c : Cp} (h : IsB w b c) (q : Quiet w w') : IsB w' b c := Blk.keepQ h q
/-- a box of a message, written -/
theorem box5 {w : World} {z0 z1 z2 z3 z4 : Value} {c : Cp} {K : Nat → World → Prop} (k : ∀ b w', IsB w' b c → Quiet w w' → w.heap.size ≤ b → b < w'.heap.size → K b w') :
    nw 30 #[z0, z1, z2, z3, z4] w fun b w1 => st (Addr.mk b 0 none) [.int .i64 c.acc, .int .i64 c.grp, .int .i64 c.step, .int .i64 c.on, .int .i64 c.quote] w1 fun w2 => K b w2 := by
  refine nwL fun b w1 hb q g _ l => hb.st0 (by simp) fun w2 hb2 on s2 => ?_
  exact k b w2 hb2 ((q.trans on).mono fun x hx e => e.elim id fun e => by omega) g (by omega)

def netP (a : Int) : Int := if a < 0 ∨ 1999 < a then -1 else a.tmod 12
theorem netP_rng (a : Int) : -1 ≤ netP a ∧ netP a ≤ 11 := by
  unfold netP
  split
  · omega
  · rename_i h
    have h1 := Int.tmod_lt_of_pos a (show (0 : Int) < 12 by decide)
    have h2 := Int.tmod_nonneg 12 (show 0 ≤ a by omega)
    omega
theorem below_c (w : World) (a b : Int) : callC Try.prog 24 #[.int .i64 a, .int .i64 b] (fun (r : Bool) => .bool r) w fun r w' => r = decide (0 ≤ a ∧ a < b) ∧ w = w' := by
  refine D24 _ _ w _ ?_
  unfold F24
  exact ⟨by rw [Bool.decide_and], rfl⟩
theorem net_c (w : World) (a : Int) : callC Try.prog 16 #[.int .i64 a] (fun (r : Int) => .int .i64 r) w fun r w' => r = netP a ∧ w = w' := by
  refine D16 _ w _ ?_
  unfold F16
  refine (below_c w a 2000).use ?_
  rintro r w' ⟨rfl, rfl⟩
  unfold netP
  refine ⟨fun hc => ?_, fun hc => ?_⟩
  · have : ¬ (0 ≤ a ∧ a < 2000) := by simp at hc; omega
    rw [if_pos (by omega)]
    exact ⟨rfl, rfl⟩
  · have : 0 ≤ a ∧ a < 2000 := by simpa using hc
    rw [if_neg (by omega)]
    exact ⟨rfl, rfl⟩
theorem rnet_c (w : World) (a : Int) : callC Try.prog 22 #[.int .i64 a] (fun (r : Int) => .int .i64 r) w fun r w' => r = netP a ∧ w = w' := by
  refine D22 _ w _ ?_
  unfold F22
  unfold netP
  refine ⟨fun hc => ?_, fun hc => ?_⟩
  · have : a < 0 ∨ 1999 < a := by simpa using hc
    rw [if_pos this]
    exact ⟨rfl, rfl⟩
  · have : ¬ (a < 0 ∨ 1999 < a) := by simp at hc; omega
    rw [if_neg this]
    exact ⟨rfl, rfl⟩

def scoreP (a b : Cp) : Int := (if a.grp = b.grp then 1 else 0) + (if a.on = b.on then 1 else 0) + (if a.quote = b.quote then 1 else 0)
def agree (a b : Cp) : Prop := a.grp = b.grp ∧ a.on = b.on ∧ a.quote = b.quote
instance (a b : Cp) : Decidable (agree a b) := by unfold agree; infer_instance
theorem score_3 (a b : Cp) : scoreP a b = 3 ↔ agree a b := by
  unfold scoreP agree
  split <;> split <;> split <;> simp_all
theorem score_le (a b : Cp) : scoreP a b ≤ 3 := by
  unfold scoreP
  split <;> split <;> split <;> decide
theorem score_c (w : World) (a b : Cp) : callC Try.prog 13 #[cpv a, cpv b] (fun (r : Int) => .int .i64 r) w fun r w' => r = scoreP a b ∧ Quiet w w' := by
  refine D13 _ _ _ _ _ _ _ _ _ _ w _ ?_
  unfold F13
  refine nwL fun b1 w1 hb1 q1 _ _ _ => nwL fun b2 w2 hb2 q2 _ _ _ => ?_
  have h1 : IsB w2 b1 a := hb1.keepQ q2
  have h2 : IsB w2 b2 b := hb2
  refine h1.at.ld (j := 1) rfl (h2.at.ld (j := 1) rfl (h1.at.ld (j := 3) rfl (h2.at.ld (j := 3) rfl (h1.at.ld (j := 4) rfl (h2.at.ld (j := 4) rfl ?_)))))
  refine nwL fun b9 w3 hb9 q3 _ _ _ => ?_
  have qq := (q1.tr q2).tr q3
  have hr : Rd w3 (fun b : Bool => [Value.bool b]) 1 (⟨some ⟨b9, 0, none⟩, 3, 3⟩ : Sl) [decide (a.grp = b.grp), decide (a.on = b.on), decide (a.quote = b.quote)] := by
    refine ⟨rfl, fun i x hx => ⟨_, rfl, fun j u hu => ?_⟩⟩
    match j, hu with
    | 0, hu =>
      cases hu
      rw [mk_add, mk_add, hb9.cell]
      match i, hx with
      | 0, hx => cases hx; rfl
      | 1, hx => cases hx; rfl
      | 2, hx => cases hx; rfl
      | i + 3, hx => simp at hx
    | j + 1, hu => simp at hu
  have e3 : [decide (a.grp = b.grp), decide (a.on = b.on), decide (a.quote = b.quote)].length = 3 := rfl
  have es : scoreP a b = (([decide (a.grp = b.grp), decide (a.on = b.on), decide (a.quote = b.quote)].filter id).length : Int) := by
    unfold scoreP
    by_cases g1 : a.grp = b.grp <;> by_cases g2 : a.on = b.on <;> by_cases g3 : a.quote = b.quote <;> simp [g1, g2, g3]
  rw [es]
  generalize [decide (a.grp = b.grp), decide (a.on = b.on), decide (a.quote = b.quote)] = l at *
  have hfl := fun k => List.length_filter_le id (l.take k)
  refine ⟨fun (c : Int × Int) w' => 0 ≤ c.2 ∧ c.2 ≤ 3 ∧ c.1 = ((l.take c.2.toNat).filter id).length ∧ w3 = w', fun c _ => (3 - c.2).toNat, ⟨by simp, by simp, by simp, rfl⟩, ?_⟩
  rintro ⟨n, i⟩ w4 ⟨i0, i1, hn, rfl⟩
  dsimp only at i0 i1 hn ⊢
  refine ⟨fun hi => ?_, fun hi => ?_⟩
  · have hlt : i < 3 := by simpa using hi
    obtain ⟨x, hx⟩ := getq (l := l) i0 (by omega)
    refine jn.mk (fun c w' => c = ((l.take (i.toNat + 1)).filter id).length ∧ w3 = w') ?_ ?_
    · refine hr.ixx i0 hx fun p hat _ => hat.ld0 rfl ?_
      rw [take_next hx, List.filter_append]
      have := hfl i.toNat
      rw [List.length_take] at this
      refine ⟨fun hc => ⟨?_, rfl⟩, fun hc => ⟨?_, rfl⟩⟩
      · rw [w64 (by omega) (by omega), hc]
        simp
        omega
      · rw [hc]
        simp
        exact hn
    · rintro c w5 ⟨rfl, rfl⟩
      rw [w64 (by omega) (by omega)]
      exact ⟨⟨by (try dsimp only); omega, by (try dsimp only); omega, by show _ = (((l.take (i + 1).toNat).filter id).length : Int); rw [toNat_succ i0], rfl⟩, by (try dsimp only); omega⟩
  · have : i = 3 := by simp at hi; omega
    subst this
    rw [List.take_of_length_le (by rw [e3]; decide)] at hn
    exact ⟨hn, qq⟩
theorem rscore_c (w : World) (a b : Cp) : callC Try.prog 14 #[cpv a, cpv b] (fun (r : Int) => .int .i64 r) w fun r w' => r = scoreP a b ∧ Quiet w w' := by
  refine D14 _ _ _ _ _ _ _ _ _ _ w _ ?_
  unfold F14
  refine nwL fun b1 w1 hb1 q1 _ _ _ => nwL fun b2 w2 hb2 q2 _ _ _ => ?_
  have h1 : IsB w2 b1 a := hb1.keepQ q2
  have h2 : IsB w2 b2 b := hb2
  refine jn.mk (fun c w' => c = (if a.grp = b.grp then 1 else 0) ∧ w2 = w') (h1.at.ld (j := 1) rfl (h2.at.ld (j := 1) rfl ⟨fun hc => ?_, fun hc => ?_⟩)) ?_
  · rw [if_pos (by simpa using hc)]
    exact ⟨by rw [w64 (by omega) (by omega)]; rfl, rfl⟩
  · rw [if_neg (by simpa using hc)]
    exact ⟨rfl, rfl⟩
  rintro x w3 ⟨rfl, rfl⟩
  refine jn.mk (fun c w' => c = (if a.grp = b.grp then 1 else 0) + (if a.on = b.on then 1 else 0) ∧ w2 = w') (h1.at.ld (j := 3) rfl (h2.at.ld (j := 3) rfl ⟨fun hc => ?_, fun hc => ?_⟩)) ?_
  · rw [if_pos (c := a.on = b.on) (by simpa using hc)]
    refine ⟨?_, rfl⟩
    rw [w64 (by split <;> omega) (by split <;> omega)]
  · rw [if_neg (c := a.on = b.on) (by simpa using hc)]
    exact ⟨by simp, rfl⟩
  rintro x w3 ⟨rfl, rfl⟩
  refine jn.mk (fun c w' => c = scoreP a b ∧ w2 = w') (h1.at.ld (j := 4) rfl (h2.at.ld (j := 4) rfl ⟨fun hc => ?_, fun hc => ?_⟩)) ?_
  · unfold scoreP
    rw [if_pos (c := a.quote = b.quote) (by simpa using hc)]
    refine ⟨?_, rfl⟩
    rw [w64 (by split <;> split <;> omega) (by split <;> split <;> omega)]
  · unfold scoreP
    rw [if_neg (c := a.quote = b.quote) (by simpa using hc)]
    exact ⟨by simp, rfl⟩
  rintro x w3 ⟨rfl, rfl⟩
  exact ⟨rfl, q1.tr q2⟩

/-- whether a known message can be the original of another one -/
def may (k c : Cp) (near : Int) : Prop := 0 ≤ near ∧ agree k c ∧ netP k.acc ≠ netP c.acc ∧ k.step ≤ c.step ∧ c.step - k.step ≤ near
instance (k c : Cp) (n : Int) : Decidable (may k c n) := by unfold may; infer_instance
theorem u64w {x : Int} (h : 0 ≤ x) (h' : x ≤ 18446744073709551615) : IntKind.u64.wrap x = x := by
  rw [IntKind.wrap_u64]
  omega
theorem may_c (w : World) (k c : Cp) (near : Int) (hk : i64 k.step) (hc : i64 c.step) (hn : near ≤ 9223372036854775807) :
    callC Try.prog 25 #[cpv k, cpv c, .int .i64 near] (fun (r : Bool) => .bool r) w fun r w' => r = decide (may k c near) ∧ Quiet w w' := by
  unfold i64 at hk hc
  refine D25 _ _ _ _ _ _ _ _ _ _ _ w _ ?_
  unfold F25
  refine nwL fun b1 w1 hb1 q1 _ _ _ => nwL fun b2 w2 hb2 q2 _ _ _ => ?_
  have h1 : IsB w2 b1 k := hb1.keepQ q2
  have h2 : IsB w2 b2 c := hb2
  have qq := q1.tr q2
  refine jn.mk (fun x w' => x = decide (near < 0 ∨ ¬ agree k c ∨ netP k.acc = netP c.acc ∨ c.step < k.step) ∧ Quiet w2 w') ?_ ?_
  · show tk w2 _
    unfold tk
    have qd : Quiet w2 w2.drew := Only.drew _ _
    refine ⟨fun h => ⟨?_, qd⟩, fun h => ?_⟩
    · have : near < 0 := by simpa using h
      simp [this]
    have hn0 : ¬ near < 0 := by simpa using h
    refine ld5 (h1.keepQ qd).at (ld5 (h2.keepQ qd).at ((score_c _ k c).use ?_))
    rintro r16 w4 ⟨rfl, q4⟩
    have q24 := qd.tr q4
    refine ⟨fun h => ⟨?_, q24⟩, fun h => ?_⟩
    · have hs : scoreP k c < 3 := by simpa using h
      have : ¬ agree k c := fun e => by rw [(score_3 k c).2 e] at hs; omega
      simp [this]
    have hag : agree k c := by
      have := score_le k c
      have h' : ¬ scoreP k c < 3 := by simpa using h
      exact (score_3 k c).1 (by omega)
    refine (h1.keepQ q24).at.ld (j := 0) rfl ((h2.keepQ q24).at.ld (j := 0) rfl ((net_c w4 k.acc).use ?_))
    rintro r20 w5 ⟨rfl, rfl⟩
    refine ⟨(h2.keepQ q24).at.cj rfl, (net_c w4 c.acc).use ?_⟩
    rintro r21 w6 ⟨rfl, rfl⟩
    refine ⟨fun h => ⟨?_, q24⟩, fun h => (h1.keepQ q24).at.ld (j := 2) rfl ((h2.keepQ q24).at.ld (j := 2) rfl ⟨?_, q24⟩)⟩
    · have : netP k.acc = netP c.acc := by simpa using h
      simp [this]
    · have : ¬ netP k.acc = netP c.acc := by simpa using h
      simp [hn0, hag, this]
  rintro x w7 ⟨rfl, q7⟩
  refine ⟨fun h => ⟨?_, qq.tr q7⟩, fun h => (h2.keepQ q7).at.ld (j := 2) rfl ((h1.keepQ q7).at.ld (j := 2) rfl ⟨?_, qq.tr q7⟩)⟩
  · have h' := of_decide_eq_true h
    have : ¬ may k c near := fun ⟨a, b, d, e, _⟩ => by
      rcases h' with h' | h' | h' | h'
      · omega
      · exact h' b
      · exact d h'
      · omega
    simp [this]
  · have h' := of_decide_eq_false h
    have h1 : ¬ near < 0 := fun e => h' (.inl e)
    have h2 : agree k c := Decidable.byContradiction fun e => h' (.inr (.inl e))
    have h3 : ¬ netP k.acc = netP c.acc := fun e => h' (.inr (.inr (.inl e)))
    have h4 : ¬ c.step < k.step := fun e => h' (.inr (.inr (.inr e)))
    have e1 : IntKind.u64.wrap (IntKind.u64.wrap c.step - IntKind.u64.wrap k.step) = c.step - k.step := by
      rw [IntKind.wrap_u64, IntKind.wrap_u64, IntKind.wrap_u64]
      omega
    rw [e1, u64w (x := near) (by omega) (by omega), Bool.eq_iff_iff, decide_eq_true_iff, decide_eq_true_iff]
    unfold may
    exact ⟨fun e => ⟨by omega, h2, h3, by omega, e⟩, fun e => e.2.2.2.2⟩
theorem rmay_c (w : World) (k c : Cp) (near : Int) (hk : i64 k.step) (hc : i64 c.step) (hn : near ≤ 9223372036854775807) :
    callC Try.prog 21 #[cpv k, cpv c, .int .i64 near] (fun (r : Bool) => .bool r) w fun r w' => r = decide (may k c near) ∧ Quiet w w' := by
  unfold i64 at hk hc
  refine D21 _ _ _ _ _ _ _ _ _ _ _ w _ ?_
  unfold F21
  refine nwL fun b1 w1 hb1 q1 _ _ _ => nwL fun b2 w2 hb2 q2 _ _ _ => ?_
  have h1 : IsB w2 b1 k := hb1.keepQ q2
  have h2 : IsB w2 b2 c := hb2
  have qq := q1.tr q2
  refine jn.mk (fun x w' => x = decide (near < 0 ∨ ¬ agree k c ∨ netP k.acc = netP c.acc ∨ c.step < k.step) ∧ Quiet w2 w') ?_ ?_
  · show tk w2 _
    unfold tk
    have qd : Quiet w2 w2.drew := Only.drew _ _
    refine ⟨fun h => ⟨?_, qd⟩, fun h => ?_⟩
    · have : near < 0 := by simpa using h
      simp [this]
    have hn0 : ¬ near < 0 := by simpa using h
    refine ld5 (h1.keepQ qd).at (ld5 (h2.keepQ qd).at ((rscore_c _ k c).use ?_))
    rintro r16 w4 ⟨rfl, q4⟩
    have q24 := qd.tr q4
    refine ⟨fun h => ⟨?_, q24⟩, fun h => ?_⟩
    · have hs : ¬ scoreP k c = 3 := by simpa using h
      have : ¬ agree k c := fun e => hs ((score_3 k c).2 e)
      simp [this]
    have hag : agree k c := (score_3 k c).1 (by simpa using h)
    refine (h1.keepQ q24).at.ld (j := 0) rfl ((h2.keepQ q24).at.ld (j := 0) rfl ((rnet_c w4 k.acc).use ?_))
    rintro r20 w5 ⟨rfl, rfl⟩
    refine ⟨(h2.keepQ q24).at.cj rfl, (rnet_c w4 c.acc).use ?_⟩
    rintro r21 w6 ⟨rfl, rfl⟩
    refine ⟨fun h => ⟨?_, q24⟩, fun h => (h1.keepQ q24).at.ld (j := 2) rfl ((h2.keepQ q24).at.ld (j := 2) rfl ⟨?_, q24⟩)⟩
    · have : netP k.acc = netP c.acc := by simpa using h
      simp [this]
    · have : ¬ netP k.acc = netP c.acc := by simpa using h
      simp [hn0, hag, this]
  rintro x w7 ⟨rfl, q7⟩
  have h1' := (h1.keepQ q7).at
  have h2' := (h2.keepQ q7).at
  refine ⟨fun h => ⟨?_, qq.tr q7⟩, fun h => ?_⟩
  · have h' := of_decide_eq_true h
    have : ¬ may k c near := fun ⟨a, b, d, e, _⟩ => by
      rcases h' with h' | h' | h' | h'
      · omega
      · exact h' b
      · exact d h'
      · omega
    simp [this]
  · have h' := of_decide_eq_false h
    have g1 : ¬ near < 0 := fun e => h' (.inl e)
    have g2 : agree k c := Decidable.byContradiction fun e => h' (.inr (.inl e))
    have g3 : ¬ netP k.acc = netP c.acc := fun e => h' (.inr (.inr (.inl e)))
    have g4 : ¬ c.step < k.step := fun e => h' (.inr (.inr (.inr e)))
    rw [w64 (x := -9223372036854775808 + near) (by omega) (by omega)]
    refine h2'.ld (j := 2) rfl (jp.val (decide (near < c.step - k.step)) ⟨fun hc1 => h1'.ld (j := 2) rfl (h2'.ld (j := 2) rfl ?_), fun hc1 => ?_⟩ ⟨?_, qq.tr q7⟩)
    · have : -9223372036854775808 + near ≤ c.step := by simpa using hc1
      rw [w64 (by omega) (by omega)]
      dsimp only
      rw [Bool.eq_iff_iff, decide_eq_true_iff, decide_eq_true_iff]
      omega
    · have : ¬ (-9223372036854775808 + near ≤ c.step) := by simpa using hc1
      have : ¬ (near < c.step - k.step) := by omega
      simp [this]
    · rw [Bool.eq_iff_iff, decide_eq_true_iff]
      simp
      unfold may
      exact ⟨fun e => ⟨by omega, g2, g3, by omega, e⟩, fun e => e.2.2.2.2⟩
end Go.Proofs.Ythnebjgmhdilbaa
