import Derived.Test.YtmnhehklhelpeaaSe
namespace Go.Proofs.Ytmnhehklhelpeaa
open Go.Dec Go.RowKit
set_option maxHeartbeats 1600000
set_option maxRecDepth 10000

/-! ### the calls of a law -/
structure Op where
  kind : Int
  box : Int
  from_ : Int
  k : Int
  n : Int
  seed : Int
  y : Int
  text : ByteArray
  take : Sl
def op (o : Op) : List Value := [.int .i64 o.kind, .int .i64 o.box, .int .i64 o.from_, .int .i64 o.k, .int .i64 o.n, .int .i64 o.seed, .int .i64 o.y, .string o.text, Sl.v o.take]
theorem op_len (o : Op) : (op o).length = 9 := rfl
def opv (o : Op) : Value := .agg #[.int .i64 o.kind, .int .i64 o.box, .int .i64 o.from_, .int .i64 o.k, .int .i64 o.n, .int .i64 o.seed, .int .i64 o.y, .string o.text, Sl.v o.take]
def IsOp (w : World) (b : Nat) (o : Op) : Prop := Blk w b 37 (op o).toArray
theorem IsOp.keepQ {w w' : World} {b : Nat} {o : Op} (h : IsOp w b o) (q : Quiet w w') : IsOp w' b o := Blk.keepQ h q
theorem IsOp.at {w : World} {b : Nat} {o : Op} (h : IsOp w b o) : AtC w (Addr.mk b 0 none) (op o) := fun j u hu => by
  unfold IsOp at h
  rw [mk_add, h.cell]
  simpa using hu
/-- what is taken of an operation -/
def Tk (w : World) (o : Op) (tk : List Int) : Prop := Rd w ci 1 o.take tk ∧ tk.length ≤ 24

theorem few_o (w : World) (s : Sl) (l : List Op) (h : Rd w op 9 s l) (hl : l.length ≤ maxLen) :
    callC Try.prog 11 #[s.v] (fun (r : Bool) => .bool r) w fun r w' => (r = true → l.length ≤ 20 ∧ ∀ o ∈ l, o.text.size ≤ 200 ∧ o.take.len ≤ 24) ∧ w = w' := by
  have hsl := h.len
  unfold maxLen at hl
  refine D11 _ w _ ?_
  unfold F11
  refine ⟨fun i w' => 0 ≤ i ∧ i ≤ l.length ∧ i ≤ 21 ∧ (∀ (j : Nat) o, (j : Int) < i → l[j]? = some o → o.text.size ≤ 200 ∧ o.take.len ≤ 24) ∧ w = w', fun i _ => (l.length - i).toNat, ⟨by omega, by omega, by omega, fun j t hj => by omega, rfl⟩, ?_⟩
  rintro i w' ⟨i0, i1, i2, hs, rfl⟩
  refine ⟨fun hc => ?_, fun hc => ?_⟩
  · rw [Bool.and_eq_true, decide_eq_true_eq, decide_eq_true_eq] at hc
    obtain ⟨t, ht⟩ := getq (l := l) i0 (by omega)
    refine h.ixx i0 ht fun p hat _ => hat.ld (j := 7) rfl ?_
    refine jp_or (v := decide (24 < (t.take.len : Int))) (fun _ J hJ => h.ixx i0 ht fun p hat _ => hat.ld (j := 8) rfl hJ) ⟨fun g => ⟨fun e => (by cases e), rfl⟩, fun g => ?_⟩
    rw [Bool.or_eq_false_iff, decide_eq_false_iff_not, decide_eq_false_iff_not] at g
    rw [w64 (by omega) (by omega)]
    refine ⟨⟨by omega, by omega, by omega, fun j u hj hu => ?_, rfl⟩, by (try dsimp only); omega⟩
    by_cases e : (j : Int) < i
    · exact hs j u e hu
    · have : j = i.toNat := by omega
      subst this
      rw [ht] at hu
      injection hu with hu
      subst hu
      exact ⟨by omega, by omega⟩
  · rw [Bool.and_eq_false_iff, decide_eq_false_iff_not, decide_eq_false_iff_not] at hc
    refine ⟨fun hr => ?_, rfl⟩
    have hr : (s.len : Int) ≤ 20 := of_decide_eq_true hr
    refine ⟨by omega, fun t ht => ?_⟩
    obtain ⟨j, hj⟩ := List.getElem?_of_mem ht
    have := (List.getElem?_eq_some_iff.1 hj).1
    exact hs j t (by omega) hj

/-! ### what is chosen -/
def chooseS (L : List Pt) (y : Int) (acc : List Pt) (t : Int) : List Pt :=
  if t < 0 ∨ (L.length : Int) ≤ t then acc else match L[t.toNat]? with
    | some p => acc ++ [if acc.length = 0 then ⟨p.x, IntKind.i64.wrap (p.y + y)⟩ else p]
    | none => acc
def chooseL (L : List Pt) (y : Int) (tk : List Int) : List Pt := tk.foldl (chooseS L y) []
def cR (x : Sl × List Pt) : List Value := [Sl.v x.1]
theorem cR1 (x : Sl × List Pt) : (cR x).length = 1 := rfl
def chosenP (rows : List (Sl × List Pt)) (o : Op) (tk : List Int) : List Pt :=
  if o.from_ < 0 ∨ (rows.length : Int) ≤ o.from_ then [] else match rows[o.from_.toNat]? with
    | some x => chooseL x.2 o.y tk
    | none => []
theorem chosen_o (w : World) (r : Sl) (rows : List (Sl × List Pt)) (o : Op) (tk : List Int) (h : Rd w cR 1 r rows) (hr : ∀ x ∈ rows, Rd w pt 2 x.1 x.2 ∧ x.2.length ≤ 1000) (ht : Tk w o tk) (hrl : rows.length ≤ 1000) :
    callC Try.prog 13 #[r.v, opv o] (fun (r : Sl) => Sl.v r) w fun r w' => ∃ F : Nat → Prop, OwnF w' F 56 2 r ((chosenP rows o tk).flatMap pt) ∧ Fresh w w' F ∧ (chosenP rows o tk).length ≤ 24 := by
  have hrl' := h.len
  refine D13 _ _ _ _ _ _ _ _ _ _ w _ ?_
  unfold F13
  refine nwL fun b9 w1 hb9 q1 g9 _ l9 => ?_
  have hb9 : IsOp w1 b9 o := hb9
  refine hb9.at.ld (j := 2) rfl ?_
  refine jp_or (v := decide ((rows.length : Int) ≤ o.from_)) (fun _ J hJ => hb9.at.ld (j := 2) rfl (by rw [hrl']; exact hJ)) ⟨fun g => ?_, fun g => ?_⟩
  · rw [Bool.or_eq_true, decide_eq_true_eq, decide_eq_true_eq] at g
    unfold chosenP
    rw [if_pos g]
    exact ⟨fun _ => False, OwnF.nil _ _ _ _, ⟨q1, fun b e => e.elim⟩, by simp⟩
  rw [Bool.or_eq_false_iff, decide_eq_false_iff_not, decide_eq_false_iff_not] at g
  obtain ⟨⟨sx, L⟩, hx⟩ := getq (l := rows) (show 0 ≤ o.from_ by omega) (by omega)
  have hch : chosenP rows o tk = chooseL L o.y tk := by
    unfold chosenP
    rw [if_neg (by omega), hx]
  rw [hch]
  obtain ⟨hL, hLl⟩ := hr _ (List.mem_of_getElem? hx)
  dsimp only at hL hLl
  have hLs := hL.len
  have htl := ht.1.len
  have htl24 := ht.2
  refine hb9.at.ld (j := 2) rfl ((h.keepQ q1).ixx (by omega) hx fun p hat _ => hat.ld0 rfl ?_)
  dsimp only
  refine ⟨fun (c : Sl × Int) w' => 0 ≤ c.2 ∧ c.2 ≤ tk.length ∧ ∃ F : Nat → Prop, OwnF w' F 56 2 c.1 (((tk.take c.2.toNat).foldl (chooseS L o.y) []).flatMap pt) ∧ (((tk.take c.2.toNat).foldl (chooseS L o.y) []).length : Int) ≤ c.2 ∧ Fresh w1 w' F, fun c _ => (tk.length - c.2).toNat, ⟨by simp, by (try dsimp only); omega, _, OwnF.nil _ _ _ _, by simp, Fresh.none _⟩, ?_⟩
  rintro ⟨out, i⟩ w2 ⟨i0, i1, F, o2, hm, f2⟩
  dsimp only at i0 i1 o2 hm ⊢
  have hb2 := hb9.keepQ f2.q
  have hq := q1.tr f2.q
  refine hb2.at.ld (j := 8) rfl ⟨fun hi => ?_, fun hi => ?_⟩
  rotate_left
  · have hi : ¬ i < (o.take.len : Int) := of_decide_eq_false hi
    rw [List.take_of_length_le (by omega)] at o2 hm
    exact ⟨F, o2, f2.after q1, by unfold chooseL; omega⟩
  have hi : i < (o.take.len : Int) := of_decide_eq_true hi
  obtain ⟨t, htk⟩ := getq (l := tk) i0 (by omega)
  generalize hacc : (tk.take i.toNat).foldl (chooseS L o.y) [] = acc at o2 hm
  have hnext : (tk.take (i.toNat + 1)).foldl (chooseS L o.y) [] = chooseS L o.y acc t := by
    rw [take_next htk, List.foldl_append, hacc]
    rfl
  refine jn.mk (fun (r : Sl) w' => ∃ F : Nat → Prop, OwnF w' F 56 2 r ((chooseS L o.y acc t).flatMap pt) ∧ ((chooseS L o.y acc t).length : Int) ≤ i + 1 ∧ Fresh w1 w' F) ?_ ?_
  rotate_left
  · rintro r3 w3 hr3
    rw [w64 (by omega) (by omega)]
    refine ⟨⟨by (try dsimp only); omega, by (try dsimp only); omega, ?_⟩, by (try dsimp only); omega⟩
    (try dsimp only)
    rw [toNat_succ i0, hnext]
    exact hr3
  refine hb2.at.ld (j := 8) rfl ((ht.1.keepQ hq).ixx i0 htk fun p25 h25 _ => h25.ld0 rfl ?_)
  refine jp_or (v := decide ((L.length : Int) ≤ t)) (fun _ J hJ => hb2.at.ld (j := 8) rfl ((ht.1.keepQ hq).ixx i0 htk fun p30 h30 _ => h30.ld0 rfl (by rw [hLs]; exact hJ))) ⟨fun g => ?_, fun g => ?_⟩
  · rw [Bool.or_eq_true, decide_eq_true_eq, decide_eq_true_eq] at g
    have : chooseS L o.y acc t = acc := by
      unfold chooseS
      rw [if_pos g]
    rw [this]
    exact ⟨F, o2, by omega, f2⟩
  rw [Bool.or_eq_false_iff, decide_eq_false_iff_not, decide_eq_false_iff_not] at g
  obtain ⟨q, hqL⟩ := getq (l := L) (show 0 ≤ t by omega) (by omega)
  have hS : chooseS L o.y acc t = acc ++ [if acc.length = 0 then ⟨q.x, IntKind.i64.wrap (q.y + o.y)⟩ else q] := by
    unfold chooseS
    rw [if_neg (by omega), hqL]
  rw [hS]
  have hol := (o2.rd pt_len (by decide)).len
  refine hb2.at.ld (j := 8) rfl ((ht.1.keepQ hq).ixx i0 htk fun p35 h35 _ => h35.ld0 rfl ((hL.keepQ hq).ixx (by omega) hqL fun p37 h37 _ => pt_ld h37 ?_))
  refine pt_box (x := q) fun b40 w5 hb40 q5 g40 l40 => ?_
  refine jn.mk (fun (_ : Unit) w' => IsPt w' b40 (if acc.length = 0 then ⟨q.x, IntKind.i64.wrap (q.y + o.y)⟩ else q) ∧ Quiet w2 w') ⟨fun hz => ?_, fun hz => ?_⟩ ?_
  · have hz : (out.len : Int) = 0 := of_decide_eq_true hz
    refine hb40.at.ld (j := 1) rfl ((hb2.keepQ q5).at.ld (j := 6) rfl ?_)
    have hb40 : Blk w5 b40 56 #[.int .i64 q.x, .int .i64 q.y] := hb40
    refine hb40.st (o := 0) (i := 1) (by simp) fun w7 b7 on7 _ => ?_
    refine ⟨?_, q5.new on7 fun x hx => by subst hx; exact g40⟩
    rw [if_pos (by omega)]
    exact b7
  · have hz : ¬ (out.len : Int) = 0 := of_decide_eq_false hz
    rw [if_neg (by omega)]
    exact ⟨hb40, q5⟩
  rintro _ w6 ⟨hb6, q6⟩
  refine pt_ld hb6.at ?_
  refine (o2.keepQ q6).push (news := pt (if acc.length = 0 then ⟨q.x, IntKind.i64.wrap (q.y + o.y)⟩ else q)) apS rfl rfl (by unfold maxLen; omega) (by omega) fun r51 w9 F' o9 _ st9 => ?_
  exact ⟨F', by simpa using o9, by rw [List.length_append, List.length_singleton]; omega, (f2.keep q6).stp st9⟩
end Go.Proofs.Ytmnhehklhelpeaa
