import Derived.Test.YtgbhghoppjfofaaGreatTd
namespace Go.Proofs.YtgbhghoppjfofaaGreat
open Go.Dec Go.RowKit
set_option maxHeartbeats 400000
/-! ### messages -/
structure Cp where
  acc : Int
  grp : Int
  step : Int
  on : Int
  quote : Int
deriving DecidableEq
def cp (c : Cp) : List Value := [.int .i64 c.acc, .int .i64 c.grp, .int .i64 c.step, .int .i64 c.on, .int .i64 c.quote]
theorem cp5 (c : Cp) : (cp c).length = 5 := rfl
theorem cpone (c : Cp) : (cp c).all Value.oneCell' = true := rfl
def cpv (c : Cp) : Value := .agg #[.int .i64 c.acc, .int .i64 c.grp, .int .i64 c.step, .int .i64 c.on, .int .i64 c.quote]
def okC (c : Cp) : Prop := i64 c.acc ∧ i64 c.grp ∧ i64 c.step ∧ i64 c.on ∧ i64 c.quote
theorem ld5 {w : World} {p : Addr} {c : Cp} {K : Int → Int → Int → Int → Int → Prop} (h : AtC w p (cp c)) (k : K c.acc c.grp c.step c.on c.quote) :
    ld (Value.int .i64) (p.add 0) w fun x0 => ld (Value.int .i64) (p.add 1) w fun x1 => ld (Value.int .i64) (p.add 2) w fun x2 => ld (Value.int .i64) (p.add 3) w fun x3 => ld (Value.int .i64) (p.add 4) w fun x4 => K x0 x1 x2 x3 x4 :=
  h.ld (j := 0) rfl (h.ld (j := 1) rfl (h.ld (j := 2) rfl (h.ld (j := 3) rfl (h.ld (j := 4) rfl k))))
def IsB (w : World) (b : Nat) (c : Cp) : Prop := Blk w b 52 (cp c).toArray
theorem IsB.at {w : World} {b : Nat} {c : Cp} (h : IsB w b c) : AtC w (Addr.mk b 0 none) (cp c) := fun j u hu => by
  unfold IsB at h
  rw [mk_add, h.cell]
  simpa using hu
theorem IsB.keepQ {w w' : World} {b : Nat} {c : Cp} (h : IsB w b c) (q : Quiet w w') : IsB w' b c := Blk.keepQ h q
/-- a box of a message, written -/
theorem box5 {w : World} {z0 z1 z2 z3 z4 : Value} {c : Cp} {K : Nat → World → Prop} (k : ∀ b w', IsB w' b c → Quiet w w' → w.heap.size ≤ b → b < w'.heap.size → K b w') :
    nw 52 #[z0, z1, z2, z3, z4] w fun b w1 => st (Addr.mk b 0 none) [.int .i64 c.acc, .int .i64 c.grp, .int .i64 c.step, .int .i64 c.on, .int .i64 c.quote] w1 fun w2 => K b w2 := by
  refine nwL fun b w1 hb q g _ l => hb.st0 (by simp) fun w2 hb2 on s2 => ?_
  exact k b w2 hb2 ((q.trans on).mono fun x hx e => e.elim id fun e => by omega) g (by omega)

def netP (a : Int) : Int := if a < 0 ∨ 1999 < a then -1 else a.tmod 12
theorem netP_rng (a : Int) : -1 ≤ netP a ∧ netP a ≤ 11 := by
  unfold netP
  split
  · omega
  · rename_i h
    have h1 := Int.tmod_lt_of_pos a (show (0 : Int) < 12 by decide)
    have h2 := Int.tmod_nonneg 12 (show 0 ≤ a by omega)
    omega
theorem below_c (w : World) (a b : Int) : callC Tryz.prog 38 #[.int .i64 a, .int .i64 b] (fun (r : Bool) => .bool r) w fun r w' => r = decide (0 ≤ a ∧ a < b) ∧ w = w' := by
  refine D38 _ _ w _ ?_
  unfold F38
  exact ⟨by rw [Bool.decide_and], rfl⟩
theorem net_c (w : World) (a : Int) : callC Tryz.prog 18 #[.int .i64 a] (fun (r : Int) => .int .i64 r) w fun r w' => r = netP a ∧ w = w' := by
  refine D18 _ w _ ?_
  unfold F18
  refine (below_c w a 2000).use ?_
  rintro r w' ⟨rfl, rfl⟩
  unfold netP
  refine ⟨fun hc => ?_, fun hc => ?_⟩
  · have : ¬ (0 ≤ a ∧ a < 2000) := by simp at hc; omega
    rw [if_pos (by omega)]
    exact ⟨rfl, rfl⟩
  · have : 0 ≤ a ∧ a < 2000 := by simpa using hc
    rw [if_neg (by omega)]
    exact ⟨rfl, rfl⟩
def scoreP (a b : Cp) : Int := (if a.grp = b.grp then 1 else 0) + (if a.on = b.on then 1 else 0) + (if a.quote = b.quote then 1 else 0)
def agree (a b : Cp) : Prop := a.grp = b.grp ∧ a.on = b.on ∧ a.quote = b.quote
instance (a b : Cp) : Decidable (agree a b) := by unfold agree; infer_instance
theorem score_3 (a b : Cp) : scoreP a b = 3 ↔ agree a b := by
  unfold scoreP agree
  split <;> split <;> split <;> simp_all
theorem score_le (a b : Cp) : scoreP a b ≤ 3 := by
  unfold scoreP
  split <;> split <;> split <;> decide
theorem score_c (w : World) (a b : Cp) : callC Tryz.prog 80 #[cpv a, cpv b] (fun (r : Int) => .int .i64 r) w fun r w' => r = scoreP a b ∧ Quiet w w' := by
  refine D80 _ _ _ _ _ _ _ _ _ _ w _ ?_
  unfold F80
  refine nwL fun b1 w1 hb1 q1 _ _ _ => nwL fun b2 w2 hb2 q2 _ _ _ => ?_
  have h1 : IsB w2 b1 a := hb1.keepQ q2
  have h2 : IsB w2 b2 b := hb2
  refine h1.at.ld (j := 1) rfl (h2.at.ld (j := 1) rfl (h1.at.ld (j := 3) rfl (h2.at.ld (j := 3) rfl (h1.at.ld (j := 4) rfl (h2.at.ld (j := 4) rfl ?_)))))
  refine nwL fun b9 w3 hb9 q3 _ _ _ => ?_
  have qq := (q1.tr q2).tr q3
  have hr : Rd w3 (fun b : Bool => [Value.bool b]) 1 (⟨some ⟨b9, 0, none⟩, 3, 3⟩ : Sl) [decide (a.grp = b.grp), decide (a.on = b.on), decide (a.quote = b.quote)] := by
    refine ⟨rfl, fun i x hx => ⟨_, rfl, fun j u hu => ?_⟩⟩
    match j, hu with
    | 0, hu =>
      cases hu
      rw [mk_add, mk_add, hb9.cell]
      match i, hx with
      | 0, hx => cases hx; rfl
      | 1, hx => cases hx; rfl
      | 2, hx => cases hx; rfl
      | i + 3, hx => simp at hx
    | j + 1, hu => simp at hu
  have e3 : [decide (a.grp = b.grp), decide (a.on = b.on), decide (a.quote = b.quote)].length = 3 := rfl
  have es : scoreP a b = (([decide (a.grp = b.grp), decide (a.on = b.on), decide (a.quote = b.quote)].filter id).length : Int) := by
    unfold scoreP
    by_cases g1 : a.grp = b.grp <;> by_cases g2 : a.on = b.on <;> by_cases g3 : a.quote = b.quote <;> simp [g1, g2, g3]
  rw [es]
  generalize [decide (a.grp = b.grp), decide (a.on = b.on), decide (a.quote = b.quote)] = l at *
  have hfl := fun k => List.length_filter_le id (l.take k)
  refine ⟨fun (c : Int × Int) w' => 0 ≤ c.2 ∧ c.2 ≤ 3 ∧ c.1 = ((l.take c.2.toNat).filter id).length ∧ w3 = w', fun c _ => (3 - c.2).toNat, ⟨by simp, by simp, by simp, rfl⟩, ?_⟩
  rintro ⟨n, i⟩ w4 ⟨i0, i1, hn, rfl⟩
  dsimp only at i0 i1 hn ⊢
  refine ⟨fun hi => ?_, fun hi => ?_⟩
  · have hlt : i < 3 := by simpa using hi
    obtain ⟨x, hx⟩ := getq (l := l) i0 (by omega)
    refine jn.mk (fun c w' => c = ((l.take (i.toNat + 1)).filter id).length ∧ w3 = w') ?_ ?_
    · refine hr.ixx i0 hx fun p hat _ => hat.ld0 rfl ?_
      rw [take_next hx, List.filter_append]
      have := hfl i.toNat
      rw [List.length_take] at this
      refine ⟨fun hc => ⟨?_, rfl⟩, fun hc => ⟨?_, rfl⟩⟩
      · rw [w64 (by omega) (by omega), hc]
        simp
        omega
      · rw [hc]
        simp
        exact hn
    · rintro c w5 ⟨rfl, rfl⟩
      rw [w64 (by omega) (by omega)]
      exact ⟨⟨by (try dsimp only); omega, by (try dsimp only); omega, by show _ = (((l.take (i + 1).toNat).filter id).length : Int); rw [toNat_succ i0], rfl⟩, by (try dsimp only); omega⟩
  · have : i = 3 := by simp at hi; omega
    subst this
    rw [List.take_of_length_le (by rw [e3]; decide)] at hn
    exact ⟨hn, qq⟩
def may (k c : Cp) (near : Int) : Prop := 0 ≤ near ∧ agree k c ∧ netP k.acc ≠ netP c.acc ∧ k.step ≤ c.step ∧ c.step - k.step ≤ near
instance (k c : Cp) (n : Int) : Decidable (may k c n) := by unfold may; infer_instance
theorem u64w {x : Int} (h : 0 ≤ x) (h' : x ≤ 18446744073709551615) : IntKind.u64.wrap x = x := by
  rw [IntKind.wrap_u64]
  omega
theorem may_c (w : World) (k c : Cp) (near : Int) (hk : i64 k.step) (hc : i64 c.step) (hn : near ≤ 9223372036854775807) :
    callC Tryz.prog 61 #[cpv k, cpv c, .int .i64 near] (fun (r : Bool) => .bool r) w fun r w' => r = decide (may k c near) ∧ Quiet w w' := by
  unfold i64 at hk hc
  refine D61 _ _ _ _ _ _ _ _ _ _ _ w _ ?_
  unfold F61
  refine nwL fun b1 w1 hb1 q1 _ _ _ => nwL fun b2 w2 hb2 q2 _ _ _ => ?_
  have h1 : IsB w2 b1 k := hb1.keepQ q2
  have h2 : IsB w2 b2 c := hb2
  have qq := q1.tr q2
  refine jn.mk (fun x w' => x = decide (near < 0 ∨ ¬ agree k c ∨ netP k.acc = netP c.acc ∨ c.step < k.step) ∧ Quiet w2 w') ?_ ?_
  · show tk w2 _
    unfold tk
    have qd : Quiet w2 w2.drew := Only.drew _ _
    refine ⟨fun h => ⟨?_, qd⟩, fun h => ?_⟩
    · have : near < 0 := by simpa using h
      simp [this]
    have hn0 : ¬ near < 0 := by simpa using h
    refine ld5 (h1.keepQ qd).at (ld5 (h2.keepQ qd).at ((score_c _ k c).use ?_))
    rintro r16 w4 ⟨rfl, q4⟩
    have q24 := qd.tr q4
    refine ⟨fun h => ⟨?_, q24⟩, fun h => ?_⟩
    · have hs : scoreP k c < 3 := by simpa using h
      have : ¬ agree k c := fun e => by rw [(score_3 k c).2 e] at hs; omega
      simp [this]
    have hag : agree k c := by
      have := score_le k c
      have h' : ¬ scoreP k c < 3 := by simpa using h
      exact (score_3 k c).1 (by omega)
    refine (h1.keepQ q24).at.ld (j := 0) rfl ((h2.keepQ q24).at.ld (j := 0) rfl ((net_c w4 k.acc).use ?_))
    rintro r20 w5 ⟨rfl, rfl⟩
    refine ⟨(h2.keepQ q24).at.cj rfl, (net_c w4 c.acc).use ?_⟩
    rintro r21 w6 ⟨rfl, rfl⟩
    refine ⟨fun h => ⟨?_, q24⟩, fun h => (h1.keepQ q24).at.ld (j := 2) rfl ((h2.keepQ q24).at.ld (j := 2) rfl ⟨?_, q24⟩)⟩
    · have : netP k.acc = netP c.acc := by simpa using h
      simp [this]
    · have : ¬ netP k.acc = netP c.acc := by simpa using h
      simp [hn0, hag, this]
  rintro x w7 ⟨rfl, q7⟩
  refine ⟨fun h => ⟨?_, qq.tr q7⟩, fun h => (h2.keepQ q7).at.ld (j := 2) rfl ((h1.keepQ q7).at.ld (j := 2) rfl ⟨?_, qq.tr q7⟩)⟩
  · have h' := of_decide_eq_true h
    have : ¬ may k c near := fun ⟨a, b, d, e, _⟩ => by
      rcases h' with h' | h' | h' | h'
      · omega
      · exact h' b
      · exact d h'
      · omega
    simp [this]
  · have h' := of_decide_eq_false h
    have h1 : ¬ near < 0 := fun e => h' (.inl e)
    have h2 : agree k c := Decidable.byContradiction fun e => h' (.inr (.inl e))
    have h3 : ¬ netP k.acc = netP c.acc := fun e => h' (.inr (.inr (.inl e)))
    have h4 : ¬ c.step < k.step := fun e => h' (.inr (.inr (.inr e)))
    have e1 : IntKind.u64.wrap (IntKind.u64.wrap c.step - IntKind.u64.wrap k.step) = c.step - k.step := by
      rw [IntKind.wrap_u64, IntKind.wrap_u64, IntKind.wrap_u64]
      omega
    rw [e1, u64w (x := near) (by omega) (by omega), Bool.eq_iff_iff, decide_eq_true_iff, decide_eq_true_iff]
    unfold may
    exact ⟨fun e => ⟨by omega, h2, h3, by omega, e⟩, fun e => e.2.2.2.2⟩
/-! ### the last one -/
def lastP (ok : Nat → Bool) : Nat → Int
  | 0 => -1
  | n + 1 => if ok n = true then (n : Int) else lastP ok n
theorem lastP_spec (ok : Nat → Bool) : ∀ n, (lastP ok n = -1 ∧ ∀ i, i < n → ok i = false) ∨ ∃ i, i < n ∧ lastP ok n = (i : Int) ∧ ok i = true ∧ ∀ j, i < j → j < n → ok j = false
  | 0 => .inl ⟨rfl, fun i h => by omega⟩
  | n + 1 => by
    unfold lastP
    split
    · rename_i h
      exact .inr ⟨n, by omega, rfl, h, fun j h1 h2 => by omega⟩
    · rename_i h
      have hf : ok n = false := by simpa using h
      rcases lastP_spec ok n with ⟨h1, h2⟩ | ⟨i, h1, h2, h3, h4⟩
      · refine .inl ⟨h1, fun i hi => ?_⟩
        by_cases e : i = n
        · exact e ▸ hf
        · exact h2 i (by omega)
      · refine .inr ⟨i, by omega, h2, h3, fun j hj hj2 => ?_⟩
        by_cases e : j = n
        · exact e ▸ hf
        · exact h4 j hj (by omega)
theorem lastP_is {ok : Nat → Bool} {n i : Nat} (hi : i < n) (ho : ok i = true) (h : ∀ j, i < j → j < n → ok j = false) : lastP ok n = (i : Int) := by
  rcases lastP_spec ok n with ⟨_, h2⟩ | ⟨k, h1, h2, h3, h4⟩
  · rw [h2 i hi] at ho
    cases ho
  · have : k = i := by
      rcases Nat.lt_trichotomy k i with e | e | e
      · rw [h4 i e hi] at ho
        cases ho
      · exact e
      · rw [h k e h1] at h3
        cases h3
    rw [h2, this]
theorem lastP_no {ok : Nat → Bool} {n : Nat} (h : ∀ j, j < n → ok j = false) : lastP ok n = -1 := by
  rcases lastP_spec ok n with ⟨h1, _⟩ | ⟨k, h1, h2, h3, h4⟩
  · exact h1
  · rw [h k h1] at h3
    cases h3
theorem lastP_congr {ok ok' : Nat → Bool} : ∀ {n : Nat}, (∀ i, i < n → ok i = ok' i) → lastP ok n = lastP ok' n
  | 0, _ => rfl
  | n + 1, h => by
    unfold lastP
    rw [h n (by omega), lastP_congr fun i hi => h i (by omega)]
theorem lastP_rng (ok : Nat → Bool) (n : Nat) : -1 ≤ lastP ok n ∧ lastP ok n < n := by
  rcases lastP_spec ok n with ⟨h1, _⟩ | ⟨k, h1, h2, _⟩ <;> omega
def okP (l : List Cp) (c : Cp) (near : Int) (used : Int → Bool) (i : Nat) : Bool := match l[i]? with
  | some k => decide (may k c near) && !used (i : Int)
  | none => false
def lastOf (l : List Cp) (c : Cp) (near : Int) (used : Int → Bool) : Int := lastP (okP l c near used) l.length

theorem last_c (w : World) (s : Sl) (l : List Cp) (c : Cp) (near : Int) (f : Value) (used : Int → Bool) (h : Rd w cp 5 s l) (hl : l.length ≤ 1000000) (hs : ∀ x ∈ l, i64 x.step) (hc : i64 c.step) (hn : near ≤ 9223372036854775807)
    (hu : ∀ (w' : World) (i : Int) (K : Bool → World → Prop), Quiet w w' → 0 ≤ i → i < l.length → (∀ w'', Quiet w' w'' → K (used i) w'') → cv Tryz.prog f [Value.int .i64 i] (fun (r : Bool) => .bool r) w' K) :
    callC Tryz.prog 36 #[s.v, cpv c, .int .i64 near, f] (fun (r : Int) => .int .i64 r) w fun r w' => r = lastOf l c near used ∧ Quiet w w' := by
  have hsl := h.len
  refine D36 _ _ _ _ _ _ _ _ w _ ?_
  unfold F36
  refine nwL fun b1 w1 hb1 q1 _ _ _ => ?_
  have h1 : IsB w1 b1 c := hb1
  rw [hsl, w64 (by omega) (by omega)]
  refine ⟨fun i w' => -1 ≤ i ∧ i ≤ (l.length : Int) - 1 ∧ (∀ j : Nat, i < j → j < l.length → okP l c near used j = false) ∧ Quiet w1 w', fun i _ => (i + 1).toNat, ⟨by omega, by omega, fun j h1 h2 => by omega, Only.refl _ _⟩, ?_⟩
  rintro i w2 ⟨i0, i1, hno, q2⟩
  refine ⟨fun hi => ?_, fun hi => ?_⟩
  · have hi0 : 0 ≤ i := by simpa using hi
    obtain ⟨k, hk⟩ := getq (l := l) hi0 (by omega)
    refine jn.mk (fun x w' => x = okP l c near used i.toNat ∧ Quiet w1 w') ?_ ?_
    · show tk w2 _
      unfold tk
      have qd : Quiet w1 w2.drew := q2.tr (Only.drew _ _)
      refine (h.keepQ (q1.tr qd)).ixx hi0 hk fun p hat _ => ld5 hat (ld5 (h1.keepQ qd).at ?_)
      refine (may_c _ k c near (hs k (List.mem_of_getElem? hk)) hc hn).use ?_
      rintro r17 w4 ⟨rfl, q4⟩
      have q14 := qd.tr q4
      have e : okP l c near used i.toNat = (decide (may k c near) && !used i) := by
        unfold okP
        rw [hk, show ((i.toNat : Nat) : Int) = i by omega]
      rw [e]
      refine ⟨fun hm => hu w4 i _ (q1.tr q14) hi0 (by omega) fun w5 q5 => ⟨by rw [hm]; rfl, q14.tr q5⟩, fun hm => ⟨by rw [hm]; rfl, q14⟩⟩
    · rintro x w6 ⟨rfl, q6⟩
      refine ⟨fun ho => ⟨?_, q1.tr q6⟩, fun ho => ?_⟩
      · have := lastP_is (ok := okP l c near used) (n := l.length) (i := i.toNat) (by omega) ho (fun j h1 h2 => hno j (by omega) h2)
        unfold lastOf
        rw [this]
        omega
      · rw [w64 (by omega) (by omega)]
        refine ⟨⟨by omega, by omega, fun j h1 h2 => ?_, q6⟩, by (try dsimp only); omega⟩
        by_cases e : j = i.toNat
        · exact e ▸ ho
        · exact hno j (by omega) h2
  · have : i = -1 := by simp at hi; omega
    subst this
    refine ⟨?_, q1.tr q2⟩
    unfold lastOf
    rw [lastP_no fun j hj => hno j (by omega) hj]

def matchP (l : List Cp) (c : Cp) (near : Int) : Int × Bool := (max (lastOf l c near fun _ => false) 0, decide (0 ≤ lastOf l c near fun _ => false))
theorem clo0_c (w : World) (n : Int) : callC Tryz.prog 37 #[.int .i64 n] (fun (r : Bool) => .bool r) w fun r w' => r = false ∧ w = w' := by
  refine D37 _ w _ ?_
  unfold F37
  exact ⟨rfl, rfl⟩
theorem match_c (w : World) (s : Sl) (l : List Cp) (c : Cp) (near : Int) (h : Rd w cp 5 s l) (hl : l.length ≤ 1000000) (hs : ∀ x ∈ l, i64 x.step) (hc : i64 c.step) (hn : near ≤ 9223372036854775807) :
    callC Tryz.prog 17 #[s.v, cpv c, .int .i64 near] (fun (r : Int × Bool) => .tuple #[.int .i64 r.1, .bool r.2]) w fun r w' => r = matchP l c near ∧ Quiet w w' := by
  refine D17 _ _ _ _ _ _ _ w _ ?_
  unfold F17
  refine nwL fun b1 w1 hb1 q1 _ _ _ => ?_
  have h1 : IsB w1 b1 c := hb1
  refine ld5 h1.at ?_
  refine (last_c w1 s l c near _ (fun _ => false) (h.keepQ q1) hl hs hc hn fun w' i K q _ _ hK => ?_).use ?_
  · refine cv_mk (ca := []) Tryz.func37 NN_37 NB_37 rfl ((clo0_c w' i).use ?_)
    rintro r w'' ⟨rfl, rfl⟩
    exact hK w' (Only.refl _ _)
  · rintro r7 w2 ⟨rfl, q2⟩
    exact ⟨rfl, q1.tr q2⟩
end Go.Proofs.YtgbhghoppjfofaaGreat
