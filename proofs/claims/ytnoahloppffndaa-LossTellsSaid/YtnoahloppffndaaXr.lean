import Derived.Test.YtnoahloppffndaaXe
import Derived.Test.YtnoahloppffndaaPr
import Derived.Test.YtnoahloppffndaaPf
namespace Go.Proofs.Ytnoahloppffndaa
open Go.Dec Go.RowKit
set_option maxHeartbeats 1600000
set_option maxRecDepth 10000

structure Ru where
  con : Int
  how : Int
  finds : Int
  rank : Int
  may : Bool
deriving DecidableEq
def ru (x : Ru) : List Value := [.int .i64 x.con, .int .i64 x.how, .int .i64 x.finds, .int .i64 x.rank, .bool x.may]
theorem ru_len (x : Ru) : (ru x).length = 5 := rfl
theorem ru_one (x : Ru) : (ru x).all Value.oneCell' = true := rfl
def ruv (x : Ru) : Value := .agg #[.int .i64 x.con, .int .i64 x.how, .int .i64 x.finds, .int .i64 x.rank, .bool x.may]
def rut (x : Ru) : Int × Int × Int × Int × Bool := (x.con, x.how, x.finds, x.rank, x.may)
theorem ru_ld {w : World} {p : Addr} {x : Ru} {K : Int → Int → Int → Int → Bool → Prop} (h : AtC w p (ru x)) (k : K x.con x.how x.finds x.rank x.may) :
    ld (Value.int .i64) (p.add 0) w fun x0 => ld (Value.int .i64) (p.add 1) w fun x1 => ld (Value.int .i64) (p.add 2) w fun x2 => ld (Value.int .i64) (p.add 3) w fun x3 => ld Value.bool (p.add 4) w fun x4 => K x0 x1 x2 x3 x4 :=
  h.ld (j := 0) rfl (h.ld (j := 1) rfl (h.ld (j := 2) rfl (h.ld (j := 3) rfl (h.ld (j := 4) rfl k))))
def IsRu (w : World) (b : Nat) (x : Ru) : Prop := Blk w b 61 (ru x).toArray
theorem IsRu.at {w : World} {b : Nat} {x : Ru} (h : IsRu w b x) : AtC w (Addr.mk b 0 none) (ru x) := fun j u hu => by
  unfold IsRu at h
  rw [mk_add, h.cell]
  simpa using hu
theorem IsRu.keepQ {w w' : World} {b : Nat} {x : Ru} (h : IsRu w b x) (q : Quiet w w') : IsRu w' b x := Blk.keepQ h q
theorem ru_box {z0 z1 z2 z3 z4 : Value} {w : World} {x : Ru} {K : Nat → World → Prop} (k : ∀ b w', IsRu w' b x → Quiet w w' → w.heap.size ≤ b → b < w'.heap.size → K b w') :
    nw 61 #[z0, z1, z2, z3, z4] w fun b w1 => st (Addr.mk b 0 none) [.int .i64 x.con, .int .i64 x.how, .int .i64 x.finds, .int .i64 x.rank, .bool x.may] w1 fun w2 => K b w2 :=
  box_all rfl k
def okRu (x : Ru) : Prop := i64 x.con ∧ i64 x.how ∧ i64 x.finds ∧ i64 x.rank ∧ True
def ru_cells (w : World) (p : Addr) (x : Ru) : Prop := w.cell? (p.add 0) = some (.int .i64 x.con) ∧ w.cell? (p.add 1) = some (.int .i64 x.how) ∧ w.cell? (p.add 2) = some (.int .i64 x.finds) ∧ w.cell? (p.add 3) = some (.int .i64 x.rank) ∧ w.cell? (p.add 4) = some (.bool x.may)
theorem ru_cj {w : World} {p : Addr} {x : Ru} (h : AtC w p (ru x)) : ru_cells w p x := ⟨h.cj (j := 0) rfl, h.cj (j := 1) rfl, h.cj (j := 2) rfl, h.cj (j := 3) rfl, h.cj (j := 4) rfl⟩
theorem ru_row {w : World} {b n : Nat} {cs : Array Value} {l : List Ru} (h : Blk w b 61 cs) (hn : n = l.length) (hc : cs = (l.flatMap ru).toArray) : Rd w ru 5 (⟨some ⟨b, 0, none⟩, n, n⟩ : Sl) l := by
  subst hc
  refine ⟨hn, fun i u hu => ⟨_, rfl, fun j v hv => ?_⟩⟩
  rw [mk_add, mk_add, h.cell]
  simpa using flat_at ru_len hu hv
def rulesP (a : Ap) : List Ru := [⟨0, 0, 0, 0, true⟩, ⟨1, 1, 1, 1, decide (2 ≤ a.parts) && decide (4400 ≤ IntKind.i64.wrap (a.size * a.parts))⟩, ⟨1, 4, 1, 2, decide (2 ≤ a.parts)⟩, ⟨1, 4, 0, 3, true⟩, ⟨2, 0, 0, 0, edits a⟩, ⟨2, 3, 2, 1, true⟩, ⟨3, 0, 0, 0, !decide (a.delete = 0)⟩, ⟨3, 2, 0, 1, edits a⟩, ⟨3, 3, 2, 2, true⟩, ⟨4, 0, 0, 0, a.react && decide (a.parts = 1)⟩, ⟨4, 0, 1, 0, a.react⟩, ⟨4, 3, 2, 1, true⟩, ⟨5, 0, 0, 0, decide (a.thread = 2)⟩, ⟨5, 2, 1, 1, decide (a.thread = 1)⟩, ⟨5, 2, 2, 2, true⟩, ⟨6, 0, 0, 0, a.quote⟩, ⟨6, 2, 2, 1, true⟩, ⟨7, 0, 0, 0, a.mention⟩, ⟨7, 2, 2, 1, true⟩, ⟨8, 0, 0, 0, decide (a.files = 4)⟩, ⟨8, 4, 1, 1, decide (1 ≤ a.files)⟩, ⟨8, 2, 2, 2, true⟩]
theorem rules_c (w : World) (a : Ap) (s : Sl) : callC Try.prog 34 #[pfv (pfOf a s)] Sl.v w fun r w' => Rd w' ru 5 r (rulesP a) ∧ Quiet w w' ∧ (∀ ad, r.a = some ad → w.heap.size ≤ ad.block ∧ ad.block < w'.heap.size) := by
  refine D34 _ _ _ _ _ _ _ _ _ _ _ _ _ _ _ _ _ _ _ _ _ _ w _ ?_
  unfold F34
  refine nwL fun b9 w1 hb9 q9 _ _ _ => ?_
  have A : AtC w1 (Addr.mk b9 0 none) (pf (pfOf a s)) := IsPf.at hb9
  refine edits_c w1 a s b9 _ A ?_
  refine A.ld (j := 9) rfl (jp_and (v := decide (4400 ≤ IntKind.i64.wrap (a.size * a.parts))) (fun _ J hJ => A.ld (j := 8) rfl (A.ld (j := 9) rfl hJ)) ?_)
  refine A.ld (j := 9) rfl (A.ld (j := 3) rfl (A.ld (j := 4) rfl (jp_and (v := decide (a.parts = 1)) (fun _ J hJ => A.ld (j := 9) rfl hJ) ?_)))
  refine A.ld (j := 4) rfl (A.ld (j := 5) rfl (A.ld (j := 5) rfl (A.ld (j := 6) rfl (A.ld (j := 7) rfl (A.ld (j := 10) rfl (A.ld (j := 10) rfl ?_))))))
  refine nwL fun b w2 hb q g _ l => ⟨ru_row (l := rulesP a) hb rfl rfl, q9.tr q, fun ad e => ?_⟩
  simp only [Option.some.injEq] at e
  subst e
  exact ⟨Nat.le_trans q9.size g, l⟩
/-- the rules of a construct -/
def ofCon (c : Int) (l : List Ru) : List Op := l.filterMap fun r => if r.con = c then some ⟨r.how, r.finds, r.may⟩ else none
theorem rules_opts (a : Ap) (c : Nat) (h : c < 9) : ofCon (c : Int) (rulesP a) = optsP a (c : Int) := by
  have : c = 0 ∨ c = 1 ∨ c = 2 ∨ c = 3 ∨ c = 4 ∨ c = 5 ∨ c = 6 ∨ c = 7 ∨ c = 8 := by omega
  rcases this with rfl | rfl | rfl | rfl | rfl | rfl | rfl | rfl | rfl <;> rfl
theorem rules_may (a : Ap) {c : Nat} (h : c < 9) (x : Wy) : (∃ r ∈ rulesP a, r.may = true ∧ r.con = (c : Int) ∧ r.how = x.how ∧ r.finds = x.finds) ↔ (⟨x.how, x.finds, true⟩ : Op) ∈ optsP a (c : Int) := by
  rw [← rules_opts a c h]
  unfold ofCon
  rw [List.mem_filterMap]
  constructor
  · rintro ⟨r, hr, h1, h2, h3, h4⟩
    exact ⟨r, hr, by rw [if_pos h2, h1, h3, h4]⟩
  · rintro ⟨r, hr, h⟩
    split at h
    · rename_i hc
      injection h with h
      injection h with h1 h2 h3
      exact ⟨r, hr, h3, hc, h1, h2⟩
    · cases h
theorem pick_find (c : Int) : ∀ (l : List Ru), pickO (ofCon c l) = match l.find? (fun r => r.may && decide (r.con = c)) with | some r => ⟨r.how, r.finds⟩ | none => ⟨5, 2⟩
  | [] => rfl
  | r :: l => by
    have ih := pick_find c l
    by_cases h1 : r.con = c
    · have : ofCon c (r :: l) = ⟨r.how, r.finds, r.may⟩ :: ofCon c l := by
        unfold ofCon
        rw [List.filterMap_cons, if_pos h1]
      rw [this, pickO, List.find?_cons]
      cases hm : r.may
      · simp only [Bool.false_and]
        rw [if_neg Bool.false_ne_true]
        exact ih
      · simp only [h1, decide_true, Bool.and_true]
        rw [if_pos trivial]
    · have : ofCon c (r :: l) = ofCon c l := by
        unfold ofCon
        rw [List.filterMap_cons, if_neg h1]
      rw [this, List.find?_cons]
      simp only [h1, decide_false, Bool.and_false]
      exact ih
def outP (l : List Ru) (c : Int) : Wy := match l.find? (fun r => r.may && decide (r.con = c)) with | some r => ⟨r.how, r.finds⟩ | none => ⟨0, 0⟩
def fndP (l : List Ru) (c : Int) : Bool := (l.find? (fun r => r.may && decide (r.con = c))).isSome
def outL (l : List Ru) : List Wy := (List.range 9).map fun (c : Nat) => outP l (c : Int)
def fndL (l : List Ru) : List Bool := (List.range 9).map fun (c : Nat) => fndP l (c : Int)
theorem outL_len (l : List Ru) : (outL l).length = 9 := by simp [outL]
theorem fndL_len (l : List Ru) : (fndL l).length = 9 := by simp [fndL]
theorem fndL_at (l : List Ru) {c : Nat} (h : c < 9) : (fndL l)[c]? = some (fndP l c) := by
  unfold fndL
  simp [h]
theorem outL_at (l : List Ru) {c : Nat} (h : c < 9) : (outL l)[c]? = some (outP l c) := by
  unfold outL
  simp [h]
theorem find_snoc (l : List Ru) (r : Ru) (c : Int) : (l ++ [r]).find? (fun r => r.may && decide (r.con = c)) = (l.find? (fun r => r.may && decide (r.con = c))).or (if r.may = true ∧ r.con = c then some r else none) := by
  rw [List.find?_append]
  congr 1
  cases hm : r.may <;> simp [hm]
theorem snoc_new {l : List Ru} {r : Ru} (hm : r.may = true) (h0 : 0 ≤ r.con) (hf : fndP l r.con = false) : outL (l ++ [r]) = (outL l).set r.con.toNat ⟨r.how, r.finds⟩ ∧ fndL (l ++ [r]) = (fndL l).set r.con.toNat true := by
  have hn : l.find? (fun x => x.may && decide (x.con = r.con)) = none := by simpa [fndP] using hf
  constructor
  · apply List.ext_getElem?
    intro c
    by_cases hc : c < 9
    · rw [outL_at _ hc, List.getElem?_set]
      by_cases e : r.con = (c : Int)
      · rw [if_pos (by omega), if_pos (by rw [outL_len]; omega)]
        unfold outP
        rw [find_snoc, ← e, hn, if_pos ⟨hm, rfl⟩]
        rfl
      · rw [if_neg (by omega), outL_at _ hc]
        unfold outP
        rw [find_snoc, if_neg (fun x => e x.2), Option.or_none]
    · rw [List.getElem?_eq_none (by rw [outL_len]; omega), List.getElem?_eq_none (by rw [List.length_set, outL_len]; omega)]
  · apply List.ext_getElem?
    intro c
    by_cases hc : c < 9
    · rw [fndL_at _ hc, List.getElem?_set]
      by_cases e : r.con = (c : Int)
      · rw [if_pos (by omega), if_pos (by rw [fndL_len]; omega)]
        unfold fndP
        rw [find_snoc, ← e, hn, if_pos ⟨hm, rfl⟩]
        rfl
      · rw [if_neg (by omega), fndL_at _ hc]
        unfold fndP
        rw [find_snoc, if_neg (fun x => e x.2), Option.or_none]
    · rw [List.getElem?_eq_none (by rw [fndL_len]; omega), List.getElem?_eq_none (by rw [List.length_set, fndL_len]; omega)]
theorem snoc_old {l : List Ru} {r : Ru} (h : r.may = false ∨ fndP l r.con = true) : outL (l ++ [r]) = outL l ∧ fndL (l ++ [r]) = fndL l := by
  have key : ∀ c : Int, (l ++ [r]).find? (fun r => r.may && decide (r.con = c)) = l.find? (fun r => r.may && decide (r.con = c)) := by
    intro c
    rw [find_snoc]
    rcases h with h | h
    · rw [if_neg (by rw [h]; exact fun x => Bool.false_ne_true x.1), Option.or_none]
    · by_cases e : r.con = c
      · subst e
        obtain ⟨x, hx⟩ := Option.isSome_iff_exists.1 h
        rw [hx]
        rfl
      · rw [if_neg (fun x => e x.2), Option.or_none]
  unfold outL fndL outP fndP
  simp only [key]
  exact ⟨trivial, trivial⟩
theorem out_best (a : Ap) : outL (rulesP a) = bestL a := by
  unfold outL bestL
  refine List.map_congr_left fun c hc => ?_
  have hc := List.mem_range.1 hc
  have h1 := pick_find (c : Int) (rulesP a)
  rw [rules_opts a c hc] at h1
  unfold outP
  show _ = pickO (optsP a c)
  rw [h1]
  cases hf : (rulesP a).find? (fun r => r.may && decide (r.con = (c : Int))) with
  | some r => rfl
  | none =>
    exfalso
    rw [List.find?_eq_none] at hf
    obtain ⟨x, hx, hm⟩ := opts_last a (c : Int)
    obtain ⟨how, finds, may⟩ := x
    dsimp only at hm
    subst hm
    obtain ⟨r, hr, g1, g2, _⟩ := (rules_may a hc ⟨how, finds⟩).2 hx
    exact hf r hr (by simp [g1, g2])
def cbo (b : Bool) : List Value := [.bool b]
theorem cbo1 (b : Bool) : (cbo b).length = 1 := rfl
theorem ap80 : appOK Try.prog 80 4 1 1 = true := by kernel_rfl
theorem zv4 : (Try.prog.info? 4).bind (·.zero) = some (.bool false) := by kernel_rfl
theorem best_c (w : World) (a : Ap) (s : Sl) : callC Try.prog 35 #[pfv (pfOf a s)] Sl.v w fun r w' => Rd w' wy 2 r (bestL a) ∧ Quiet w w' := by
  refine D35 _ _ _ _ _ _ _ _ _ _ _ _ _ _ _ _ _ _ _ _ _ _ w _ ?_
  unfold F35
  refine nwL fun b9 w1 hb9 q1 _ _ _ => ?_
  have hb9 : IsPf w1 b9 (pfOf a s) := hb9
  refine rn_makeN (n := 9) (x := (⟨0, 0⟩ : Wy)) ap25 zv46 rfl wy_len (by decide) (by decide) fun r10 w2 F o10 _ f10 => ?_
  refine rn_make1 (n := 9) ap80 zv4 rfl (by decide) (by decide) fun r11 w3 G o11 _ f11 => ?_
  have o10 : OwnF w3 F 46 2 r10 ((outL []).flatMap wy) := o10.keepQ f11.q
  have o11 : OwnF w3 G 4 1 r11 ((fndL []).flatMap cbo) := o11
  have q13 := f10.q.tr f11.q
  have O3 : Objs w1 w3 (two F G) := ((Objs.start w1).none2.n0 f10).n1 f11
  refine pf_ld (hb9.keepQ q13).at ((rules_c w3 a s).use ?_)
  rintro r34 w4 ⟨h34, q4, n34⟩
  have hrl := h34.len
  have hr22 : (rulesP a).length = 22 := rfl
  refine ⟨fun i w' => 0 ≤ i ∧ i ≤ 22 ∧ OwnF w' F 46 2 r10 ((outL ((rulesP a).take i.toNat)).flatMap wy) ∧ OwnF w' G 4 1 r11 ((fndL ((rulesP a).take i.toNat)).flatMap cbo) ∧ Objs w1 w' (two F G) ∧ Only (fun b => F b ∨ G b) w4 w', fun i _ => (22 - i).toNat, ⟨by omega, by omega, by simpa using o10.keepQ q4, by simpa using o11.keepQ q4, O3.quiet q4, Only.refl _ _⟩, ?_⟩
  rintro i w5 ⟨i0, i1, oo, of_, O, on⟩
  have hro : Rd w5 ru 5 r34 (rulesP a) := h34.keep on fun ad e _ hF => by
    have h1 := (n34 ad e).1
    rcases hF with hF | hF
    · have := O3.sep.lt 0 _ hF
      omega
    · have := O3.sep.lt 1 _ hF
      omega
  refine ⟨fun hi => ?_, fun hi => ?_⟩
  rotate_left
  · have hi : ¬ i < (r34.len : Int) := of_decide_eq_false hi
    rw [List.take_of_length_le (by omega), out_best] at oo
    exact ⟨oo.rd wy_len (by decide), q1.tr (Quiet.ofBelow O.bl)⟩
  have hi : i < (r34.len : Int) := of_decide_eq_true hi
  obtain ⟨r, hr⟩ := getq (l := rulesP a) i0 (by omega)
  have hcon : 0 ≤ r.con ∧ r.con < 9 := by
    have : ∀ x ∈ rulesP a, 0 ≤ x.con ∧ x.con < 9 := by simp [rulesP]
    exact this r (List.mem_of_getElem? hr)
  have hk : r.con.toNat < 9 := by omega
  have hkc : ((r.con.toNat : Nat) : Int) = r.con := by omega
  have hfa := fndL_at ((rulesP a).take i.toNat) hk
  rw [hkc] at hfa
  have hn1 : (i + 1).toNat = i.toNat + 1 := toNat_succ i0
  refine jn.mk (fun _ w' => OwnF w' F 46 2 r10 ((outL ((rulesP a).take (i.toNat + 1))).flatMap wy) ∧ OwnF w' G 4 1 r11 ((fndL ((rulesP a).take (i.toNat + 1))).flatMap cbo) ∧ Objs w1 w' (two F G) ∧ Only (fun b => F b ∨ G b) w4 w') ?_ ?_
  rotate_left
  · rintro _ w6 ⟨k1, k2, k3, k4⟩
    rw [w64 (by omega) (by omega)]
    refine ⟨⟨by omega, by omega, ?_, ?_, k3, k4⟩, by (try dsimp only); omega⟩
    · rw [hn1]
      exact k1
    · rw [hn1]
      exact k2
  refine hro.ixx i0 hr fun p hat _ => hat.ld (j := 0) rfl (hro.ixx i0 hr fun p hat _ => hat.ld (j := 4) rfl ?_)
  refine jp_and (v := !fndP ((rulesP a).take i.toNat) r.con) (fun _ J hJ => (of_.rd cbo1 (by decide)).ixx hcon.1 hfa fun p hat _ => hat.ld0 rfl hJ) ⟨fun g => ?_, fun g => ?_⟩
  · rw [Bool.and_eq_true, Bool.not_eq_true'] at g
    obtain ⟨e1, e2⟩ := snoc_new g.1 hcon.1 g.2
    rw [take_next hr, e1, e2]
    refine of_.put (i := r.con) (y := true) cbo1 hcon.1 (by rw [fndL_len]; omega) (by decide) fun w7 of7 on7 s7 => ?_
    have O7 := O.s1 ⟨on7, fun b e => .inl e⟩
    have oo7 := oo.keep on7 O.d01
    have on47 : Only (fun b => F b ∨ G b) w4 w7 := on.then_ on7 fun _ _ e => .inr e
    refine jn.mk (fun _ w' => OwnF w' F 46 2 r10 (((outL ((rulesP a).take i.toNat)).set r.con.toNat ⟨r.how, r.finds⟩).flatMap wy) ∧ OwnF w' G 4 1 r11 (((fndL ((rulesP a).take i.toNat)).set r.con.toNat true).flatMap cbo) ∧ Objs w1 w' (two F G) ∧ Only (fun b => F b ∨ G b) w4 w') ?_ fun _ w' k => k
    show tk _ _
    unfold tk
    have qd : Quiet w7 w7.drew := Only.drew _ _
    have on48 : Only (fun b => F b ∨ G b) w4 w7.drew := on47.then_ qd fun _ _ e => e.elim
    have hro : Rd w7.drew ru 5 r34 (rulesP a) := h34.keep on48 fun ad e _ hF => by
      have h1 := (n34 ad e).1
      rcases hF with hF | hF
      · have := O3.sep.lt 0 _ hF
        omega
      · have := O3.sep.lt 1 _ hF
        omega
    refine hro.ixx i0 hr fun p hat _ => hat.ld (j := 1) rfl (hro.ixx i0 hr fun p hat _ => hat.ld (j := 2) rfl ?_)
    refine (oo7.keepQ qd).put (i := r.con) (y := (⟨r.how, r.finds⟩ : Wy)) wy_len hcon.1 (by rw [outL_len]; omega) (by decide) fun w9 oo9 on9 s9 => ?_
    have O8 := O7.quiet qd
    exact ⟨oo9, (of7.keepQ qd).keep on9 O8.d10, O8.s0 ⟨on9, fun b e => .inl e⟩, on48.then_ on9 fun _ _ e => .inl e⟩
  · rw [Bool.and_eq_false_iff, Bool.not_eq_false'] at g
    obtain ⟨e1, e2⟩ := snoc_old g
    rw [take_next hr, e1, e2]
    exact ⟨oo, of_, O, on⟩

/-! ### ranks by the rules -/
def rankR (x : Lo) : Int := match (rulesP ap0).find? (fun r => decide (r.con = x.con ∧ r.how = x.how ∧ r.finds = x.finds)) with | some r => r.rank | none => 0
theorem rkF_none : ∀ (l : List Op) (n : Int) (x : Wy) (r : Int), (∀ o ∈ l, ¬ (o.how = x.how ∧ o.finds = x.finds)) → rkF l n x r = r
  | [], _, _, _, _ => rfl
  | o :: l, n, x, r, h => by
    have ih := fun n => rkF_none l n x r fun y hy => h y (by simp [hy])
    rw [rkF, if_neg (h o (by simp)), ih, ih]
    split <;> rfl
theorem opts0_in (c : Int) : ∀ o ∈ optsP ap0 c, (0 ≤ o.how ∧ o.how ≤ 4) ∧ (0 ≤ o.finds ∧ o.finds ≤ 2) := by
  unfold optsP
  repeat' split
  all_goals simp
theorem rules0_in : ∀ r ∈ rulesP ap0, (0 ≤ r.con ∧ r.con ≤ 8) ∧ (0 ≤ r.how ∧ r.how ≤ 4) ∧ (0 ≤ r.finds ∧ r.finds ≤ 2) := by simp [rulesP]
theorem rank_table : ∀ c ∈ List.range 9, ∀ h ∈ List.range 5, ∀ f ∈ List.range 3, rankR ⟨(c : Int), (h : Int), (f : Int)⟩ = rankOf ⟨(c : Int), (h : Int), (f : Int)⟩ := by decide +kernel
theorem rankR_eq (x : Lo) : rankR x = rankOf x := by
  obtain ⟨c, h, f⟩ := x
  by_cases hb : (0 ≤ c ∧ c ≤ 8) ∧ (0 ≤ h ∧ h ≤ 4) ∧ (0 ≤ f ∧ f ≤ 2)
  · have := rank_table c.toNat (List.mem_range.2 (by omega)) h.toNat (List.mem_range.2 (by omega)) f.toNat (List.mem_range.2 (by omega))
    rwa [Int.toNat_of_nonneg hb.1.1, Int.toNat_of_nonneg hb.2.1.1, Int.toNat_of_nonneg hb.2.2.1] at this
  · have h2 : (rulesP ap0).find? (fun r => decide (r.con = c ∧ r.how = h ∧ r.finds = f)) = none := by
      rw [List.find?_eq_none]
      intro r hr
      have := rules0_in r hr
      simp only [decide_eq_true_eq]
      omega
    have h1 : rankR ⟨c, h, f⟩ = 0 := by
      unfold rankR
      dsimp only
      rw [h2]
    rw [h1]
    unfold rankOf
    dsimp only
    by_cases hc : 0 ≤ c ∧ c ≤ 8
    · refine (rkF_none _ _ _ _ fun o ho e => ?_).symm
      have := opts0_in c o ho
      dsimp only at e
      omega
    · have h3 : optsP ap0 c = [⟨0, 0, true⟩] := by
        unfold optsP
        repeat' split
        all_goals first | omega | rfl
      rw [h3]
      rfl
theorem rank_con {x : Lo} (h : rankOf x ≠ 0) : 0 ≤ x.con ∧ x.con < 9 := by
  refine Classical.byContradiction fun hc => h ?_
  have h1 : optsP ap0 x.con = [⟨0, 0, true⟩] := by
    unfold optsP
    repeat' split
    all_goals first | omega | rfl
  unfold rankOf
  rw [h1]
  rfl
theorem rank_c (w : World) (x : Lo) : callC Try.prog 52 #[lov x] (fun (r : Int) => .int .i64 r) w fun r w' => r = rankOf x ∧ Quiet w w' := by
  rw [← rankR_eq]
  refine D52 _ _ _ w _ ?_
  unfold F52
  refine nwL fun b9 w1 hb9 q1 _ _ _ => ?_
  have hb9 : IsLo w1 b9 x := hb9
  refine (rules_c w1 ap0 Sl.nil).use ?_
  rintro r10 w2 ⟨h10, q2, _⟩
  have hrl := h10.len
  have B : ∀ w', Quiet w2 w' → AtC w' (Addr.mk b9 0 none) (lo x) := fun w' q => (hb9.keepQ (q2.tr q)).at
  have q := q1.tr q2
  refine ⟨fun i w' => 0 ≤ i ∧ i ≤ (rulesP ap0).length ∧ ((rulesP ap0).take i.toNat).find? (fun r => decide (r.con = x.con ∧ r.how = x.how ∧ r.finds = x.finds)) = none ∧ Quiet w2 w', fun i _ => ((rulesP ap0).length - i).toNat, ⟨by omega, by omega, by simp, Only.refl _ _⟩, ?_⟩
  rintro i w3 ⟨i0, i1, hn, q3⟩
  refine ⟨fun hi => ?_, fun hi => ?_⟩
  rotate_left
  · have hi : ¬ i < (r10.len : Int) := of_decide_eq_false hi
    rw [List.take_of_length_le (by omega)] at hn
    refine ⟨?_, q.tr q3⟩
    unfold rankR
    rw [hn]
  have hi : i < (r10.len : Int) := of_decide_eq_true hi
  obtain ⟨r, hr⟩ := getq (l := rulesP ap0) i0 (by omega)
  refine jn_any' (W := w2) (decide (r.con = x.con ∧ r.how = x.how ∧ r.finds = x.finds)) ?_ fun w5 q5 => ⟨fun g => ?_, fun g => ?_⟩
  · show tk _ _
    unfold tk
    replace q3 := q3.tr (Only.drew (fun _ => False) _)
    have h := h10.keepQ q3
    have B := B _ q3
    refine h.ixx i0 hr fun p hat _ => hat.ld (j := 0) rfl (B.ld (j := 0) rfl ⟨fun e1 => ?_, fun e1 => ⟨(decide_eq_false fun c => of_decide_eq_false e1 c.1).symm, q3⟩⟩)
    refine h.ixx i0 hr fun p hat _ => hat.ld (j := 1) rfl (B.ld (j := 1) rfl ⟨fun e2 => ?_, fun e2 => ⟨(decide_eq_false fun c => of_decide_eq_false e2 c.2.1).symm, q3⟩⟩)
    refine h.ixx i0 hr fun p hat _ => hat.ld (j := 2) rfl (B.ld (j := 2) rfl ⟨?_, q3⟩)
    exact decide_eq_decide.2 ⟨fun e3 => ⟨of_decide_eq_true e1, of_decide_eq_true e2, e3⟩, fun c => c.2.2⟩
  · refine (h10.keepQ q5).ixx i0 hr fun p hat _ => hat.ld (j := 3) rfl ⟨?_, q.tr q5⟩
    unfold rankR
    have : (rulesP ap0).find? (fun r => decide (r.con = x.con ∧ r.how = x.how ∧ r.finds = x.finds)) = some r := by
      obtain ⟨hj, e⟩ := List.getElem?_eq_some_iff.1 hr
      rw [← List.take_append_drop i.toNat (rulesP ap0), List.find?_append, hn, List.drop_eq_getElem_cons hj, e, List.find?_cons, g]
      rfl
    rw [this]
  · rw [w64 (by have : (rulesP ap0).length = 22 := rfl; omega) (by have : (rulesP ap0).length = 22 := rfl; omega)]
    refine ⟨⟨by omega, by omega, ?_, q5⟩, by (try dsimp only); omega⟩
    rw [toNat_succ i0, take_next hr, List.find?_append, hn, List.find?_cons, g]
    rfl
end Go.Proofs.Ytnoahloppffndaa
