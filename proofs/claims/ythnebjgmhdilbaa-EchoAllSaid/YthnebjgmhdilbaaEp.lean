import Derived.Test.YthnebjgmhdilbaaEn
namespace Go.Proofs.Ythnebjgmhdilbaa
open Go.Dec Go.RowKit
set_option maxHeartbeats 400000

/-! ### the last one -/
def lastP (ok : Nat → Bool) : Nat → Int
  | 0 => -1
  | n + 1 => if ok n = true then (n : Int) else lastP ok n
theorem lastP_spec (ok : Nat → Bool) : ∀ n, (lastP ok n = -1 ∧ ∀ i, i < n → ok i = false) ∨ ∃ i, i < n ∧ lastP ok n = (i : Int) ∧ ok i = true ∧ ∀ j, i < j → j < n → ok j = false
  | 0 => .inl ⟨rfl, fun i h => by omega⟩
  | n + 1 => by
    unfold lastP
    split
    · rename_i h
      exact .inr ⟨n, by omega, rfl, h, fun j h1 h2 => by omega⟩
    · rename_i h
      have hf : ok n = false := by simpa using h
      rcases lastP_spec ok n with ⟨h1, h2⟩ | ⟨i, h1, h2, h3, h4⟩
      · refine .inl ⟨h1, fun i hi => ?_⟩
        by_cases e : i = n
        · exact e ▸ hf
        · exact h2 i (by omega)
      · refine .inr ⟨i, by omega, h2, h3, fun j hj hj2 => ?_⟩
        by_cases e : j = n
        · exact e ▸ hf
        · exact h4 j hj (by omega)
theorem lastP_is {ok : Nat → Bool} {n i : Nat} (hi : i < n) (ho : ok i = true) (h : ∀ j, i < j → j < n → ok j = false) : lastP ok n = (i : Int) := by
  rcases lastP_spec ok n with ⟨_, h2⟩ | ⟨k, h1, h2, h3, h4⟩
  · rw [h2 i hi] at ho
    cases ho
  · have : k = i := by
      rcases Nat.lt_trichotomy k i with e | e | e
      · rw [h4 i e hi] at ho
        cases ho
      · exact e
      · rw [h k e h1] at h3
        cases h3
    rw [h2, this]
theorem lastP_no {ok : Nat → Bool} {n : Nat} (h : ∀ j, j < n → ok j = false) : lastP ok n = -1 := by
  rcases lastP_spec ok n with ⟨h1, _⟩ | ⟨k, h1, h2, h3, h4⟩
  · exact h1
  · rw [h k h1] at h3
    cases h3
theorem lastP_congr {ok ok' : Nat → Bool} : ∀ {n : Nat}, (∀ i, i < n → ok i = ok' i) → lastP ok n = lastP ok' n
  | 0, _ => rfl
  | n + 1, h => by
    unfold lastP
    rw [h n (by omega), lastP_congr fun i hi => h i (by omega)]
theorem lastP_rng (ok : Nat → Bool) (n : Nat) : -1 ≤ lastP ok n ∧ lastP ok n < n := by
  rcases lastP_spec ok n with ⟨h1, _⟩ | ⟨k, h1, h2, _⟩ <;> omega
def okP (l : List Cp) (c : Cp) (near : Int) (used : Int → Bool) (i : Nat) : Bool := match l[i]? with
  | some k => decide (may k c near) && !used (i : Int)
  | none => false
def lastOf (l : List Cp) (c : Cp) (near : Int) (used : Int → Bool) : Int := lastP (okP l c near used) l.length

theorem last_c (w : World) (s : Sl) (l : List Cp) (c : Cp) (near : Int) (f : Value) (used : Int → Bool) (h : Rd w cp 5 s l) (hl : l.length ≤ 1000000) (hs : ∀ x ∈ l, i64 x.step) (hc : i64 c.step) (hn : near ≤ 9223372036854775807)
    (hu : ∀ (w' : World) (i : Int) (K : Bool → World → Prop), Quiet w w' → 0 ≤ i → i < l.length → (∀ w'', Quiet w' w'' → K (used i) w'') → cv Try.prog f [Value.int .i64 i] (fun (r : Bool) => .bool r) w' K) :
    callC Try.prog 18 #[s.v, cpv c, .int .i64 near, f] (fun (r : Int) => .int .i64 r) w fun r w' => r = lastOf l c near used ∧ Quiet w w' := by
  have hsl := h.len
  refine D18 _ _ _ _ _ _ _ _ w _ ?_
  unfold F18
  refine nwL fun b1 w1 hb1 q1 _ _ _ => ?_
  have h1 : IsB w1 b1 c := hb1
  rw [hsl, w64 (by omega) (by omega)]
  refine ⟨fun i w' => -1 ≤ i ∧ i ≤ (l.length : Int) - 1 ∧ (∀ j : Nat, i < j → j < l.length → okP l c near used j = false) ∧ Quiet w1 w', fun i _ => (i + 1).toNat, ⟨by omega, by omega, fun j h1 h2 => by omega, Only.refl _ _⟩, ?_⟩
  rintro i w2 ⟨i0, i1, hno, q2⟩
  refine ⟨fun hi => ?_, fun hi => ?_⟩
  · have hi0 : 0 ≤ i := by simpa using hi
    obtain ⟨k, hk⟩ := getq (l := l) hi0 (by omega)
    refine jn.mk (fun x w' => x = okP l c near used i.toNat ∧ Quiet w1 w') ?_ ?_
    · show tk w2 _
      unfold tk
      have qd : Quiet w1 w2.drew := q2.tr (Only.drew _ _)
      refine (h.keepQ (q1.tr qd)).ixx hi0 hk fun p hat _ => ld5 hat (ld5 (h1.keepQ qd).at ?_)
      refine (may_c _ k c near (hs k (List.mem_of_getElem? hk)) hc hn).use ?_
      rintro r17 w4 ⟨rfl, q4⟩
      have q14 := qd.tr q4
      have e : okP l c near used i.toNat = (decide (may k c near) && !used i) := by
        unfold okP
        rw [hk, show ((i.toNat : Nat) : Int) = i by omega]
      rw [e]
      refine ⟨fun hm => hu w4 i _ (q1.tr q14) hi0 (by omega) fun w5 q5 => ⟨by rw [hm]; rfl, q14.tr q5⟩, fun hm => ⟨by rw [hm]; rfl, q14⟩⟩
    · rintro x w6 ⟨rfl, q6⟩
      refine ⟨fun ho => ⟨?_, q1.tr q6⟩, fun ho => ?_⟩
      · have := lastP_is (ok := okP l c near used) (n := l.length) (i := i.toNat) (by omega) ho (fun j h1 h2 => hno j (by omega) h2)
        unfold lastOf
        rw [this]
        omega
      · rw [w64 (by omega) (by omega)]
        refine ⟨⟨by omega, by omega, fun j h1 h2 => ?_, q6⟩, by (try dsimp only); omega⟩
        by_cases e : j = i.toNat
        · exact e ▸ ho
        · exact hno j (by omega) h2
  · have : i = -1 := by simp at hi; omega
    subst this
    refine ⟨?_, q1.tr q2⟩
    unfold lastOf
    rw [lastP_no fun j hj => hno j (by omega) hj]

def matchP (l : List Cp) (c : Cp) (near : Int) : Int × Bool := (max (lastOf l c near fun _ => false) 0, decide (0 ≤ lastOf l c near fun _ => false))
theorem clo0_c (w : World) (n : Int) : callC Try.prog 23 #[.int .i64 n] (fun (r : Bool) => .bool r) w fun r w' => r = false ∧ w = w' := by
  refine D23 _ w _ ?_
  unfold F23
  exact ⟨rfl, rfl⟩
theorem match_c (w : World) (s : Sl) (l : List Cp) (c : Cp) (near : Int) (h : Rd w cp 5 s l) (hl : l.length ≤ 1000000) (hs : ∀ x ∈ l, i64 x.step) (hc : i64 c.step) (hn : near ≤ 9223372036854775807) :
    callC Try.prog 11 #[s.v, cpv c, .int .i64 near] (fun (r : Int × Bool) => .tuple #[.int .i64 r.1, .bool r.2]) w fun r w' => r = matchP l c near ∧ Quiet w w' := by
  refine D11 _ _ _ _ _ _ _ w _ ?_
  unfold F11
  refine nwL fun b1 w1 hb1 q1 _ _ _ => ?_
  have h1 : IsB w1 b1 c := hb1
  refine ld5 h1.at ?_
  refine (last_c w1 s l c near _ (fun _ => false) (h.keepQ q1) hl hs hc hn fun w' i K q _ _ hK => ?_).use ?_
  · refine cv_mk (ca := []) Try.func23 NN_23 NB_23 rfl ((clo0_c w' i).use ?_)
    rintro r w'' ⟨rfl, rfl⟩
    exact hK w' (Only.refl _ _)
  · rintro r7 w2 ⟨rfl, q2⟩
    exact ⟨rfl, q1.tr q2⟩
theorem rmatch_c (w : World) (s : Sl) (l : List Cp) (c : Cp) (near : Int) (h : Rd w cp 5 s l) (hl : l.length ≤ 1000000) (hs : ∀ x ∈ l, i64 x.step) (hc : i64 c.step) (hn : near ≤ 9223372036854775807) :
    callC Try.prog 12 #[s.v, cpv c, .int .i64 near] (fun (r : Int × Bool) => .tuple #[.int .i64 r.1, .bool r.2]) w fun r w' => r = matchP l c near ∧ Quiet w w' := by
  have hsl := h.len
  refine D12 _ _ _ _ _ _ _ w _ ?_
  unfold F12
  refine nwL fun b1 w1 hb1 q1 _ _ _ => ?_
  have h1 : IsB w1 b1 c := hb1
  refine ⟨fun (x : Int × Bool × Int) w' => 0 ≤ x.2.2 ∧ x.2.2 ≤ l.length ∧ x.1 = max (lastP (okP l c near fun _ => false) x.2.2.toNat) 0 ∧ x.2.1 = decide (0 ≤ lastP (okP l c near fun _ => false) x.2.2.toNat) ∧ Quiet w1 w', fun x _ => (l.length - x.2.2).toNat, ⟨by simp, by simp, rfl, rfl, Only.refl _ _⟩, ?_⟩
  rintro ⟨at_, is, i⟩ w2 ⟨i0, i1, ha, hb, q2⟩
  dsimp only at i0 i1 ha hb ⊢
  refine ⟨fun hi => ?_, fun hi => ?_⟩
  · have hlt : i < l.length := by simpa [hsl] using hi
    obtain ⟨k, hk⟩ := getq i0 hlt
    have e : okP l c near (fun _ => false) i.toNat = decide (may k c near) := by
      unfold okP
      rw [hk]
      simp
    refine jn.mk (fun (x : Int × Bool) w' => x.1 = max (lastP (okP l c near fun _ => false) (i.toNat + 1)) 0 ∧ x.2 = decide (0 ≤ lastP (okP l c near fun _ => false) (i.toNat + 1)) ∧ Quiet w1 w') ?_ ?_
    · refine jn.mk (fun x w' => x = decide (may k c near) ∧ Quiet w1 w') ?_ ?_
      · show tk w2 _
        unfold tk
        have qd : Quiet w1 w2.drew := q2.tr (Only.drew _ _)
        refine (h.keepQ (q1.tr qd)).ixx i0 hk fun p hat _ => ld5 hat (ld5 (h1.keepQ qd).at ?_)
        refine (rmay_c _ k c near (hs k (List.mem_of_getElem? hk)) hc hn).use ?_
        rintro r17 w4 ⟨rfl, q4⟩
        exact ⟨rfl, qd.tr q4⟩
      · rintro x w6 ⟨rfl, q6⟩
        unfold lastP
        rw [e]
        refine ⟨fun ho => ?_, fun ho => ?_⟩
        · rw [if_pos ho]
          dsimp only
          exact ⟨by omega, by simp; omega, q6⟩
        · rw [if_neg (by rw [ho]; decide)]
          exact ⟨ha, hb, q6⟩
    · rintro ⟨a', b'⟩ w3 ⟨g1, g2, g3⟩
      dsimp only at g1 g2
      rw [w64 (by omega) (by omega)]
      refine ⟨⟨by (try dsimp only); omega, by (try dsimp only); omega, ?_, ?_, g3⟩, by (try dsimp only); omega⟩
      · show _ = max (lastP (okP l c near fun _ => false) (i + 1).toNat) 0
        rw [toNat_succ i0]
        exact g1
      · show _ = decide (0 ≤ lastP (okP l c near fun _ => false) (i + 1).toNat)
        rw [toNat_succ i0]
        exact g2
  · have : i.toNat = l.length := by simp [hsl] at hi; omega
    rw [this] at ha hb
    refine ⟨?_, q1.tr q2⟩
    unfold matchP lastOf
    rw [ha, hb]

theorem contains_c (w : World) (s : Sl) (l : List Int) (n : Int) (h : Rd w ci 1 s l) (hl : l.length ≤ 1000000) :
    callC Try.prog 20 #[s.v, .int .i64 n] (fun (r : Bool) => .bool r) w fun r w' => r = decide (n ∈ l) ∧ w = w' := by
  have hsl := h.len
  refine D20 _ _ w _ ?_
  unfold F20
  refine callC.use (R := fun r w' => decide (0 ≤ r) = decide (n ∈ l) ∧ w = w') (D26 _ _ w _ ?_) fun r w' h => h
  unfold F26
  refine ⟨fun i w' => 0 ≤ i ∧ i ≤ l.length ∧ n ∉ l.take i.toNat ∧ w = w', fun i _ => (l.length - i).toNat, ⟨by omega, by omega, by simp, rfl⟩, ?_⟩
  rintro i w' ⟨i0, i1, hn, rfl⟩
  refine ⟨fun hi => ?_, fun hi => ?_⟩
  · have hlt : i < l.length := by simpa [hsl] using hi
    obtain ⟨x, hx⟩ := getq i0 hlt
    refine h.ixx i0 hx fun p hat _ => hat.ld0 rfl ⟨fun hc => ?_, fun hc => ?_⟩
    · have : n = x := by simpa using hc
      subst this
      have := List.mem_of_getElem? hx
      simp [this, i0]
    · have hne : n ≠ x := by simpa using hc
      rw [w64 (by omega) (by omega)]
      refine ⟨⟨by omega, by omega, ?_, rfl⟩, by (try dsimp only); omega⟩
      rw [toNat_succ i0, take_next hx]
      simp only [List.mem_append, List.mem_singleton, not_or]
      exact ⟨hn, hne⟩
  · have hge : l.length ≤ i.toNat := by simp [hsl] at hi; omega
    rw [List.take_of_length_le hge] at hn
    simp [hn]

/-! ### pairs -/
abbrev Done := List (Int × Int)
def usedD (done : Done) (net n : Int) : Bool := decide ((n, net) ∈ done)
def stepD (l : List Cp) (near : Int) (done : Done) (c : Cp) : Int × Int := (lastOf l c near (usedD done (netP c.acc)), netP c.acc)
def pairsD (l : List Cp) (near : Int) (cs : List Cp) : Done := cs.foldl (fun done c => done ++ [stepD l near done c]) []
theorem pairsD_snoc (l : List Cp) (near : Int) (cs : List Cp) (c : Cp) : pairsD l near (cs ++ [c]) = pairsD l near cs ++ [stepD l near (pairsD l near cs) c] := by simp [pairsD]
theorem pairsD_len (l : List Cp) (near : Int) (cs : List Cp) : (pairsD l near cs).length = cs.length := by
  have : ∀ (cs : List Cp) (acc : Done), (cs.foldl (fun done c => done ++ [stepD l near done c]) acc).length = acc.length + cs.length := by
    intro cs
    induction cs with
    | nil => intro acc; rfl
    | cons c cs ih => intro acc; rw [List.foldl_cons, ih]; simp; omega
  simpa [pairsD] using this cs []
def pairsP (l : List Cp) (near : Int) (cs : List Cp) : List Int := (pairsD l near cs).map Prod.fst
/-- the used ones of a network -/
def ofNet (done : Done) (net : Int) : List Int := (done.filter fun p => decide (p.2 = net ∧ 0 ≤ p.1)).map Prod.fst
theorem mem_ofNet {done : Done} {net n : Int} : n ∈ ofNet done net ↔ (n, net) ∈ done ∧ 0 ≤ n := by
  unfold ofNet
  rw [List.mem_map]
  constructor
  · rintro ⟨⟨a, b⟩, h1, rfl⟩
    rw [List.mem_filter] at h1
    obtain ⟨h1, h2⟩ := h1
    have h2 := of_decide_eq_true h2
    dsimp only at h2 ⊢
    obtain ⟨rfl, h3⟩ := h2
    exact ⟨h1, h3⟩
  · rintro ⟨h1, h2⟩
    exact ⟨(n, net), List.mem_filter.2 ⟨h1, by simp [h2]⟩, rfl⟩
theorem ofNet_snoc (done : Done) (net n m : Int) : ofNet (done ++ [(n, m)]) net = ofNet done net ++ (if m = net ∧ 0 ≤ n then [n] else []) := by
  unfold ofNet
  rw [List.filter_append, List.map_append]
  congr 1
  by_cases h : m = net ∧ 0 ≤ n <;> simp [h]
theorem ofNet_len (done : Done) (net : Int) : (ofNet done net).length ≤ done.length := by
  unfold ofNet
  rw [List.length_map]
  exact List.length_filter_le _ _

theorem k3 : KeyOK Try.prog 3 (.int .i64) (Value.int .i64) := keyOK_int (by kernel_rfl)
theorem u40 : Try.prog.underlying 40 = some (.map 3 25) := by kernel_rfl
theorem zv25 : (Try.prog.info? 25).bind (·.zero) = some Sl.nil.v := by kernel_rfl
theorem rdI {w : World} {b n : Nat} {l : List Int} {cs : Array Value} (h : Blk w b 3 cs) (hn : n = l.length) (hc : cs = (l.map (Value.int .i64)).toArray) : Rd w ci 1 (⟨some ⟨b, 0, none⟩, n, n⟩ : Sl) l := by
  subst hc
  refine ⟨hn, fun i x hx => ⟨_, rfl, fun j u hu => ?_⟩⟩
  match j, hu with
  | 0, hu =>
    simp [ci] at hu
    subst hu
    rw [mk_add, mk_add, h.cell]
    simp [hx]
  | j + 1, hu => simp [ci] at hu
theorem clo_c (w : World) (b2 b16 mb : Nat) (m : Int → Option Sl) (net n : Int) (l : List Int) (h2 : Blk w b2 40 #[.map (some mb)]) (hm : Mp (Value.int .i64) Sl.v w mb m) (h16 : Blk w b16 3 #[.int .i64 net]) (hr : Rd w ci 1 ((m net).getD Sl.nil) l) (hl : l.length ≤ 1000000) :
    callC Try.prog 19 #[.int .i64 n, .pointer (some ⟨b2, 0, none⟩), .pointer (some ⟨b16, 0, none⟩)] (fun (r : Bool) => .bool r) w fun r w' => r = decide (n ∈ l) ∧ w = w' := by
  refine D19 _ _ _ w _ ?_
  unfold F19
  refine h2.ld0 (x := some mb) rfl (h16.ld0 (x := net) rfl ?_)
  refine rn_look1 (z := Sl.nil) net hm u40 k3 zv25 ((m net).getD Sl.nil) rfl ?_
  refine (contains_c w _ l n hr hl).use ?_
  rintro r w' ⟨rfl, rfl⟩
  exact ⟨rfl, rfl⟩

/-- the rows of the networks -/
def ixn (net : Int) : Nat := (net + 3).toNat
structure PInv (w0 w : World) (mb b2 : Nat) (out : Sl) (done : Done) : Prop where
  ex : ∃ (O : Nat → Nat → Prop) (m : Int → Option Sl), Objs w0 w O ∧ Mp (Value.int .i64) Sl.v w mb m ∧ Blk w b2 40 #[.map (some mb)] ∧ O 1 mb ∧ O 1 b2 ∧ OwnF w (O 0) 3 1 out ((done.map Prod.fst).flatMap ci) ∧
    (∀ net s, m net = some s → -1 ≤ net ∧ OwnF w (O (ixn net)) 3 1 s ((ofNet done net).flatMap ci)) ∧ (∀ net, m net = none → ofNet done net = [])

theorem pairs_c (w : World) (s t : Sl) (l cs : List Cp) (near : Int) (h : Rd w cp 5 s l) (h' : Rd w cp 5 t cs) (hl : l.length ≤ 1000) (hl' : cs.length ≤ 1000) (hs : ∀ x ∈ l, i64 x.step) (hs' : ∀ x ∈ cs, i64 x.step) (hn : near ≤ 9223372036854775807) :
    callC Try.prog 9 #[s.v, t.v, .int .i64 near] Sl.v w fun r w' => ∃ F, OwnF w' F 3 1 r ((pairsP l near cs).flatMap ci) ∧ Fresh w w' F := by
  have hsl := h.len
  have htl := h'.len
  refine D9 _ _ _ w _ ?_
  unfold F9
  refine rn_makeMap (α := Int) (β := Sl) (ek := Value.int .i64) (ev := Sl.v) (fun _ => rfl) fun mb w1 hm1 q1 g1 l1 _ => ?_
  refine nwL fun b2 w2 hb2 q2 g2 _ l2 => hb2.st0 (by simp) fun w3 hb3 on3 s3 => ?_
  have hs1 := q1.size
  have hs2 := q2.size
  have q03 : Quiet w w3 := ((q1.tr q2).trans on3).mono fun x hx e => e.elim id fun e => by omega
  have O0 : Objs w w3 (fun i b => i = 1 ∧ (b = mb ∨ b = b2)) :=
    ⟨(Objs.start w).bl.trans (bq q03), ⟨fun i j b hi hj => hi.1.trans hj.1.symm, fun i b hb => by rcases hb.2 with e | e <;> omega, fun i b hb => by rcases hb.2 with e | e <;> omega⟩⟩
  have hm3 : Mp (Value.int .i64) Sl.v w3 mb (mnone : Int → Option Sl) := (hm1.keepQ q2).keep on3 fun e => by omega
  refine ⟨fun (c : Sl × Int) w' => 0 ≤ c.2 ∧ c.2 ≤ cs.length ∧ PInv w w' mb b2 c.1 (pairsD l near (cs.take c.2.toNat)), fun c _ => (cs.length - c.2).toNat, ⟨by simp, by simp, ⟨_, _, O0, hm3, hb3, ⟨rfl, .inl rfl⟩, ⟨rfl, .inr rfl⟩, by simpa [pairsD] using OwnF.nil _ _ _ _, (fun net s e => by cases e), (fun net e => by simp [pairsD, ofNet])⟩⟩, ?_⟩
  clear O0 hm3 hb3 hm1 hb2
  rintro ⟨out, i⟩ w4 ⟨i0, i1, ⟨O, m, hO, hm, hb2, hOm, hOb, ho, hrow, hno⟩⟩
  dsimp only at i0 i1 ho hrow hno ⊢
  have q04 : Quiet w w4 := Quiet.ofBelow hO.bl
  have hdl := pairsD_len l near (cs.take i.toNat)
  rw [List.length_take] at hdl
  refine ⟨fun hi => ?_, fun hi => ?_⟩
  · have hlt : i < cs.length := by simpa [htl] using hi
    obtain ⟨c, hc⟩ := getq i0 hlt
    have hcs := hs' c (List.mem_of_getElem? hc)
    have htk := take_next hc
    generalize hdone : pairsD l near (cs.take i.toNat) = done at *
    refine (h'.keepQ q04).ixx i0 hc fun p hat _ => ld5 hat (box5 fun b12 w6 hb12 q6 g6 l6 => ?_)
    refine hb12.at.ld (j := 0) rfl ((net_c w6 c.acc).use ?_)
    rintro r15 w7 ⟨rfl, rfl⟩
    refine nwL fun b16 w8 hb16 q8 g8 _ l8 => hb16.st0 (by simp) fun w9 hb9 on9 s9 => ?_
    have hs6 := q6.size
    have hs8 := q8.size
    have q69 : Quiet w6 w9 := (q8.trans on9).mono fun x hx e => e.elim id fun e => by omega
    have q49 := q6.tr q69
    refine ld5 (hb12.keepQ q69).at ?_
    have hm9 := hm.keepQ q49
    have hb29 := hb2.keepQ q49
    have hO9 := hO.quiet q49
    obtain ⟨hnet0, hnet1⟩ := netP_rng c.acc
    generalize hnet : netP c.acc = net at *
    -- the row of the copy's network
    have hrow9 : OwnF w9 (O (ixn net)) 3 1 ((m net).getD Sl.nil) ((ofNet done net).flatMap ci) := by
      cases e : m net with
      | none =>
        rw [hno net e]
        exact OwnF.nil _ _ _ _
      | some s => exact (hrow net s e).2.keepQ q49
    have hofl := ofNet_len done net
    refine (last_c w9 s l c near _ (usedD done net) ((h.keepQ q04).keepQ q49) (by omega) hs hcs hn fun w' n K q n0 n1 hK => ?_).use ?_
    · refine cv_mk Try.func19 NN_19 NB_19 rfl ((clo_c w' b2 b16 mb m net n (ofNet done net) (hb29.keepQ q) (hm9.keepQ q) (Blk.keepQ hb9 q) ((hrow9.keepQ q).rd ci1 (by decide)) (by omega)).use ?_)
      rintro r w'' ⟨rfl, rfl⟩
      have : decide (n ∈ ofNet done net) = usedD done net n := by
        unfold usedD
        rw [decide_eq_decide, mem_ofNet]
        exact ⟨fun e => e.1, fun e => ⟨e, n0⟩⟩
      rw [this]
      exact hK w' (Only.refl _ _)
    rintro r23 w10 ⟨hr23, q10⟩
    have hstep : stepD l near done c = (r23, net) := by
      unfold stepD
      rw [hnet, hr23]
    obtain ⟨hr0, hr1⟩ : -1 ≤ r23 ∧ r23 < l.length := by rw [hr23]; exact lastP_rng _ _
    have q410 := q49.tr q10
    have hO10 := hO.quiet q410
    have hb210 := hb2.keepQ q410
    have hm10 := hm.keepQ q410
    have hb10 : Blk w10 b16 3 #[.int .i64 net] := Blk.keepQ hb9 q10
    have ho10 := ho.keepQ q410
    have hw4 : ∀ j b, O j b → b < w4.heap.size := fun j b => hO.sep.lt j b
    have hb16n : ∀ j, ¬ O j b16 := fun j e => by
      have := hw4 j b16 e
      omega
    -- what is there behind the writing
    refine jn.mk (fun _ w' => ∃ (O : Nat → Nat → Prop) (m : Int → Option Sl), Objs w w' O ∧ Mp (Value.int .i64) Sl.v w' mb m ∧ Blk w' b2 40 #[.map (some mb)] ∧ O 1 mb ∧ O 1 b2 ∧ OwnF w' (O 0) 3 1 out ((done.map Prod.fst).flatMap ci) ∧
        (∀ net' s, m net' = some s → -1 ≤ net' ∧ OwnF w' (O (ixn net')) 3 1 s ((ofNet (done ++ [(r23, net)]) net').flatMap ci)) ∧ (∀ net', m net' = none → ofNet (done ++ [(r23, net)]) net' = [])) ⟨fun hc0 => ?_, fun hc0 => ?_⟩ ?_
    · have hr0' : 0 ≤ r23 := by simpa using hc0
      -- the row grows, the map is told
      have tail : ∀ (w12 : World) (b34 : Nat), Quiet w10 w12 → Blk w12 b34 3 #[.int .i64 r23] → ∀ K : World → Prop,
          (∀ w', (∃ (O : Nat → Nat → Prop) (m : Int → Option Sl), Objs w w' O ∧ Mp (Value.int .i64) Sl.v w' mb m ∧ Blk w' b2 40 #[.map (some mb)] ∧ O 1 mb ∧ O 1 b2 ∧ OwnF w' (O 0) 3 1 out ((done.map Prod.fst).flatMap ci) ∧
            (∀ net' s, m net' = some s → -1 ≤ net' ∧ OwnF w' (O (ixn net')) 3 1 s ((ofNet (done ++ [(r23, net)]) net').flatMap ci)) ∧ (∀ net', m net' = none → ofNet (done ++ [(r23, net)]) net' = [])) → K w') →
          rn Try.prog (Builtin.append_ #[25, 25] 25 #[Sl.v ((m net).getD Sl.nil), Sl.v (⟨some ⟨b34, 0, none⟩, 1, 1⟩ : Sl)]) Sl.v w12 fun r35 w15 =>
            (w15.cell? (Addr.mk b16 0 none) = some (Value.int .i64 net)) ∧ (w15.cell? (Addr.mk b2 0 none) = some (Value.map (some mb))) ∧ rn0 Try.prog (Instr.mapUpdate 40 (Value.map (some mb)) (Value.int .i64 net) (Sl.v r35)) w15 fun w16 => K w16 := by
        intro w12 b34 q12 hb34 K hK
        have q412 := q410.tr q12
        have hO12 := hO.quiet q412
        have row12 := (hrow9.keepQ q10).keepQ q12
        have hrl := (row12.rd ci1 (by decide)).len
        refine row12.app ap25 (rdI (l := [r23]) hb34 rfl rfl) ci1 (by decide) cione (by rw [hrl]; simp; unfold maxLen; omega) (by rw [hrl]; simp; omega) fun r35 w15 F' o15 _ st15 => ?_
        rw [← List.flatMap_append] at o15
        have hne : ixn net ≠ 1 := by unfold ixn; omega
        have hne0 : ixn net ≠ 0 := by unfold ixn; omega
        have hO15 := hO12.step (ixn net) st15
        have keep15 : ∀ {b : Nat}, ¬ O (ixn net) b → ∀ {t : TypeId} {cs : Array Value}, Blk w12 b t cs → Blk w15 b t cs := fun hn _ _ hb => hb.keep st15.only hn
        have hb2' := keep15 (fun e => hne (hO12.sep.dis _ _ _ e hOb)) (hb2.keepQ q412)
        have hm15 := (hm.keepQ q412).keep st15.only (fun e => hne (hO12.sep.dis _ _ _ e hOm))
        refine ⟨by have := (keep15 (hb16n _) (hb10.keepQ q12)).ld0' (o := 0) (i := 0) rfl; rwa [add_zero'] at this, by have := hb2'.ld0' (o := 0) (i := 0) rfl; rwa [add_zero'] at this, ?_⟩
        refine rn_mset net r35 hm15 u40 k3 fun w16 m16 on16 s16 => hK w16 ?_
        have st16 : Stp (updO O (ixn net) F' 1) w15 (updO O (ixn net) F' 1) w16 := ⟨on16.mono fun x _ e => by rw [updO_ne _ _ (Ne.symm hne)]; exact e ▸ hOm, fun x e => .inl e⟩
        have hO16 := hO15.same 1 st16
        have d16 : ∀ j, j ≠ 1 → ∀ b, updO O (ixn net) F' j b → ¬ b = mb := fun j hj b e1 e2 => hj (hO15.sep.dis j 1 b e1 (by rw [updO_ne _ _ (Ne.symm hne)]; exact e2 ▸ hOm))
        refine ⟨updO O (ixn net) F', mset m net r35, hO16, m16, hb2'.keep on16 (hm15.ne_blk hb2'), by rw [updO_ne _ _ (Ne.symm hne)]; exact hOm, by rw [updO_ne _ _ (Ne.symm hne)]; exact hOb, ?_, fun net' s e => ?_, fun net' e => ?_⟩
        · rw [updO_ne _ _ (Ne.symm hne0)]
          have e1 : OwnF w15 (O 0) 3 1 out ((done.map Prod.fst).flatMap ci) := (ho.keepQ q412).keep st15.only (hO12.dj (Ne.symm hne0))
          exact e1.keep on16 fun b e1 e2 => by
            have := hO12.sep.dis 0 1 b e1 (e2 ▸ hOm)
            omega
        · by_cases en : net' = net
          · subst en
            rw [mset_same] at e
            injection e with e
            subst e
            refine ⟨hnet0, ?_⟩
            rw [updO_same, ofNet_snoc, if_pos ⟨rfl, hr0'⟩]
            exact o15.keep on16 fun b e1 e2 => d16 (ixn net') hne b (by rw [updO_same]; exact e1) e2
          · rw [mset_ne _ _ en] at e
            obtain ⟨g1, g2⟩ := hrow net' s e
            have hix : ixn net' ≠ ixn net := by unfold ixn; omega
            refine ⟨g1, ?_⟩
            rw [updO_ne _ _ hix, ofNet_snoc, if_neg (fun e => en e.1.symm), List.append_nil]
            have e1 := (g2.keepQ q412).keep st15.only (hO12.dj hix)
            have hix1 : ixn net' ≠ 1 := by unfold ixn; omega
            exact e1.keep on16 fun b e1 e2 => hix1 (hO12.sep.dis _ 1 b e1 (e2 ▸ hOm))
        · by_cases en : net' = net
          · subst en
            rw [mset_same] at e
            cases e
          · rw [mset_ne _ _ en] at e
            rw [ofNet_snoc, if_neg (fun e => en e.1.symm), List.append_nil]
            exact hno net' e
      refine jn.in_ ?_
      show tk w10 _
      unfold tk
      have qd : Quiet w10 w10.drew := Only.drew _ _
      have hbd := hb210.keepQ qd
      have h16d := hb10.keepQ qd
      have c2 : ∀ {w' : World}, Quiet w10 w' → w'.cell? (Addr.mk b2 0 none) = some (Value.map (some mb)) := fun q => by
        have := (hb210.keepQ q).ld0' (o := 0) (i := 0) rfl
        rwa [add_zero'] at this
      have c16 : ∀ {w' : World}, Quiet w10 w' → w'.cell? (Addr.mk b16 0 none) = some (Value.int .i64 net) := fun q => by
        have := (hb10.keepQ q).ld0' (o := 0) (i := 0) rfl
        rwa [add_zero'] at this
      refine hbd.ld0 (x := some mb) rfl (h16d.ld0 (x := net) rfl (hbd.ld0 (x := some mb) rfl (h16d.ld0 (x := net) rfl ⟨?_, ?_⟩)))
      · refine rn_look1 (z := Sl.nil) net (hm10.keepQ qd) u40 k3 zv25 ((m net).getD Sl.nil) rfl ⟨c16 qd, c2 qd, ?_⟩
        refine nwL fun b34 w14 hb34 q14 _ _ _ => ⟨c16 (qd.tr q14), c2 (qd.tr q14), ?_⟩
        exact tail w14 b34 (qd.tr q14) hb34 _ fun w' e => e
      · refine nwL fun b34 w14 hb34 q14 _ _ _ => ⟨c16 (qd.tr q14), c2 (qd.tr q14), c16 (qd.tr q14), c2 (qd.tr q14), ?_⟩
        refine rn_look1 (z := Sl.nil) net (hm10.keepQ (qd.tr q14)) u40 k3 zv25 ((m net).getD Sl.nil) rfl ⟨c16 (qd.tr q14), c2 (qd.tr q14), ?_⟩
        exact tail w14 b34 (qd.tr q14) hb34 _ fun w' e => e
    · have hr0' : ¬ 0 ≤ r23 := by simpa using hc0
      refine ⟨O, m, hO10, hm10, hb210, hOm, hOb, ho10, fun net' s e => ?_, fun net' e => ?_⟩
      · rw [ofNet_snoc, if_neg (fun e => hr0' e.2), List.append_nil]
        exact ⟨(hrow net' s e).1, (hrow net' s e).2.keepQ q410⟩
      · rw [ofNet_snoc, if_neg (fun e => hr0' e.2), List.append_nil]
        exact hno net' e
    · rintro _ w11 ⟨O', m', hO', hm', hb2', hOm', hOb', ho', hrow', hno'⟩
      have hol := (ho'.rd ci1 (by decide)).len
      rw [List.length_map, hdl] at hol
      refine OwnF.push ap25 ho' rfl rfl (by unfold maxLen; omega) (by omega) fun r43 w23 F' o23 _ st23 => ?_
      rw [w64 (by omega) (by omega)]
      refine ⟨⟨by (try dsimp only); omega, by (try dsimp only); omega, ?_⟩, by (try dsimp only); omega⟩
      show PInv w w23 mb b2 r43 (pairsD l near (cs.take (i + 1).toNat))
      rw [toNat_succ i0, htk, pairsD_snoc, hdone, hstep]
      have hO23 := hO'.step 0 st23
      refine ⟨updO O' 0 F', m', hO23, hm'.keep st23.only fun e => (by have := hO'.sep.dis 0 1 _ e hOm'; omega), hb2'.keep st23.only fun e => (by have := hO'.sep.dis 0 1 _ e hOb'; omega), by rw [updO_ne _ _ (by decide)]; exact hOm', by rw [updO_ne _ _ (by decide)]; exact hOb', ?_, fun net' s e => ?_, hno'⟩
      · rw [updO_same]
        simpa [ci] using o23
      · obtain ⟨g1, g2⟩ := hrow' net' s e
        have hix : ixn net' ≠ 0 := by unfold ixn; omega
        refine ⟨g1, ?_⟩
        rw [updO_ne _ _ hix]
        exact g2.keep st23.only (hO'.dj hix)
  · have : cs.take i.toNat = cs := List.take_of_length_le (by simp [htl] at hi; omega)
    rw [this] at ho
    exact ⟨O 0, ho, q04, fun b hb => ⟨hO.sep.ge 0 b hb, hO.sep.lt 0 b hb⟩⟩
end Go.Proofs.Ythnebjgmhdilbaa
