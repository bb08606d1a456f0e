import Derived.Test.YtmnhehklhelpeaaSk
namespace Go.Proofs.Ytmnhehklhelpeaa
open Go.Dec Go.RowKit
set_option maxHeartbeats 3200000
set_option maxRecDepth 10000

/-- the same boxes with another text -/
def re (t : ByteArray) (b : Bo) : Bo := ⟨t, b.need, b.gone⟩
theorem seal_re {l : List Bo} {x t : ByteArray} {k n seed : Int} (hx : x.size ≤ 65536) (ht : t.size ≤ 65536) : sealV (l.map (re t)) t k n seed = ((sealV l x k n seed).1.map (re t), (sealV l x k n seed).2) := by
  unfold sealV
  by_cases h : okN k n
  · rw [if_neg (by simpa using h), if_neg (by omega), if_neg (by simpa using h), if_neg (by omega)]
    simp [re]
  · rw [if_pos h, if_pos h]
theorem burn_re (t : ByteArray) (l : List Bo) (i : Int) : burnL (l.map (re t)) i = ((burnL l i).1.map (re t), (burnL l i).2) := by
  unfold burnL
  rw [List.length_map, List.getElem?_map]
  by_cases h : i < 0 ∨ (l.length : Int) ≤ i
  · rw [if_pos h, if_pos h]
  · rw [if_neg h, if_neg h]
    cases hb : l[i.toNat]? with
    | none => rfl
    | some b =>
      cases hg : b.gone with
      | true => simp [re, hg]
      | false => simp [re, hg, List.map_set]
theorem open_re {t : ByteArray} {l : List Bo} {i : Int} {m : List Pt} {r s : ByteArray × Int} (h : OpenR l i m r) (h' : OpenR (l.map (re t)) i m s) : r.2 = s.2 ∧ (r.2 = 0 → s.1 = t) ∧ (r.2 ≠ 0 → r.1 = e0 ∧ s.1 = e0) := by
  have lt : ∀ {b : Bo}, l[i.toNat]? = some b → i.toNat < l.length := fun hb => (List.getElem?_eq_some_iff.1 hb).1
  rcases h with ⟨h1, rfl⟩ | ⟨b, j, h1, h2, h3, h4⟩
  · rcases h' with ⟨k1, rfl⟩ | ⟨c, k, k1, k2, k3, k4⟩
    · exact ⟨rfl, fun e => by simp at e, fun _ => ⟨rfl, rfl⟩⟩
    · have := (List.getElem?_eq_some_iff.1 k2).1
      rw [List.length_map] at this
      omega
  · rcases h' with ⟨k1, rfl⟩ | ⟨c, k, k1, k2, k3, k4⟩
    · have := lt h2
      rw [List.length_map] at k1
      omega
    · rw [List.getElem?_map, h2] at k2
      have k2 : some (re t b) = some c := k2
      injection k2 with k2
      subst k2
      have ej := JoinR.uniq h3 k3
      subst ej
      have eg : (re t b).gone = b.gone := rfl
      rw [eg] at k4
      rcases h4 with ⟨a1, rfl⟩ | ⟨a1, ⟨a2, rfl⟩ | ⟨a2, a3, rfl⟩⟩ <;> rcases k4 with ⟨b1, rfl⟩ | ⟨b1, ⟨b2, rfl⟩ | ⟨b2, b3, rfl⟩⟩
      · exact ⟨rfl, fun e => absurd e a1, fun _ => ⟨rfl, rfl⟩⟩
      · exact absurd b1 a1
      · exact absurd b1 a1
      · exact absurd a1 b1
      · exact ⟨rfl, fun e => by simp at e, fun _ => ⟨rfl, rfl⟩⟩
      · exact absurd b2 (by rcases a2 with a2 | a2; exact a2; rw [b3] at a2; cases a2)
      · exact absurd a1 b1
      · exact absurd a2 (by rcases b2 with b2 | b2; exact b2; rw [a3] at b2; cases b2)
      · exact ⟨rfl, fun _ => rfl, fun e => absurd rfl e⟩

theorem blind (W : World) (s : Sl) (l : List Op) (h : Rd W op 9 s l) (_ : ∀ ad, s.a = some ad → 0 < l.length → ad.block < W.heap.size) (hl : l.length ≤ maxLen) (hg : ∀ o ∈ l, GoodO W o) (t : ByteArray) (_ : t.size ≤ maxLen) :
    callC Try.prog 4 #[s.v, .string t] (fun (r : Bool) => .bool r) W fun r w' => r = true ∧ Below W.heap.size W w' := by
  have hsl := h.len
  refine callC.use (R := fun r w' => r = true ∧ Quiet W w') ?_ fun _ _ h => ⟨h.1, bq h.2⟩
  refine D4 _ _ W _ ?_
  unfold F4
  refine (small_s W).use ?_
  rintro _ B ⟨rfl, q1⟩
  refine (few_o B s l (h.keepQ q1) hl).use ?_
  rintro r10 w2 ⟨hf, rfl⟩
  refine ⟨fun g => ⟨rfl, q1⟩, fun g => ?_⟩
  rw [Bool.or_eq_false_iff, decide_eq_false_iff_not, Bool.not_eq_false'] at g
  obtain ⟨g1, ht⟩ := g
  have ht : t.size ≤ 65536 := by omega
  obtain ⟨hl20, hf2⟩ := hf g1
  have hB := h.keepQ q1
  have htk : ∀ o ∈ l, (∃ tk, Tk B o tk) ∧ -9223372036854775808 ≤ o.k ∧ o.text.size ≤ 65536 := fun o ho => by
    obtain ⟨⟨tk, htk⟩, hk⟩ := hg o ho
    have := (hf2 o ho).2
    have := (hf2 o ho).1
    have := htk.len
    exact ⟨⟨tk, htk.keepQ q1, by omega⟩, hk, by omega⟩
  clear h hg hf hf2 g1
  refine (new_s B).use ?_
  rintro _ w3 ⟨sb, F0, rfl, hS0, q3, f3⟩
  refine (new_s w3).use ?_
  rintro _ w4 ⟨rb, G0, rfl, hQ0, q4, f4⟩
  refine ⟨fun g => by simp at g, fun _ => ?_⟩
  have T0 : TX IsS B w4 F0 G0 (fun _ => False) sb rb Sl.nil [] [] [] [] := by
    have lt3 := hS0.lt
    refine ⟨hS0.keepQ q4, hQ0, OwnF.nil _ _ _ _, fun b e => e.elim, fun b e e' => ?_, fun _ _ => id, fun _ _ => id, fun x hx => hx, fun x hx => (by cases hx), ⟨q3.tr q4, fun b e => ?_⟩⟩
    · have := lt3 b e
      have := f4 b e'
      omega
    · have := q3.size
      rcases e with e | e | e
      · exact f3 b e
      · have := f4 b e
        omega
      · exact e.elim
  refine ⟨fun (c : Sl × Int) w' => 0 ≤ c.2 ∧ c.2 ≤ l.length ∧ ∃ F G R lst rows, (lst.length : Int) ≤ c.2 ∧ (rows.length : Int) ≤ c.2 ∧ TX IsS B w' F G R sb rb c.1 lst (lst.map (re t)) rows rows, fun c _ => (l.length - c.2).toNat, ⟨by simp, by (try dsimp only); omega, F0, G0, _, [], [], by simp, by simp, T0⟩, ?_⟩
  clear T0 hS0 hQ0
  rintro ⟨sh, i⟩ w5 ⟨i0, i1, F, G, R, lst, rows, e1, e2, T5⟩
  dsimp only at i0 i1 e1 e2 T5 ⊢
  refine ⟨fun hi => ?_, fun hi => ⟨rfl, q1.tr T5.nw_.1⟩⟩
  have hi : i < (l.length : Int) := by
    rw [decide_eq_true_eq] at hi
    omega
  obtain ⟨o, ho⟩ := getq (l := l) i0 hi
  obtain ⟨⟨tz, hTk⟩, hk64, htx⟩ := htk o (List.mem_of_getElem? ho)
  refine (hB.keepQ T5.nw_.1).ixx i0 ho fun p18 h18 _ => op_ld h18 ?_
  refine box_all (vs := op o) rfl fun b28 w7 hb7 q7 g7 l7 => ?_
  have lt5 := T5.lt secS
  have O7 : OpK w7 (un F G R) b28 o := ⟨hb7, fun e => by have := lt5 b28 e; omega, l7⟩
  have T7 := T5.qt secS q7
  clear hb7 T5 lt5
  have hml : (lst.map (re t)).length = lst.length := List.length_map _
  refine jn.mk (fun (r : Sl) w' => ∃ F G R lst rows, (lst.length : Int) ≤ i + 1 ∧ (rows.length : Int) ≤ i + 1 ∧ TX IsS B w' F G R sb rb r lst (lst.map (re t)) rows rows) ?_ ?_
  rotate_left
  · rintro sh' w8 ⟨F', G', R', lst', rows', e1', e2', T8⟩
    refine use_same (len_s w8 F' sb lst' T8.s) (use_same (len_s w8 G' rb _ T8.q) ⟨fun g => ?_, fun _ => ?_⟩)
    · rw [List.length_map] at g
      simp at g
    · rw [w64 (by omega) (by omega)]
      exact ⟨⟨by (try dsimp only); omega, by (try dsimp only); omega, F', G', R', lst', rows', e1', e2', T8⟩, by (try dsimp only); omega⟩
  refine O7.1.at.ld (j := 0) rfl ⟨fun k0 => ?_, fun k0 => ⟨fun k1 => ?_, fun k1 => ⟨fun k2 => ?_, fun k2 => ?_⟩⟩⟩
  · -- a sealing
    refine O7.1.at.ld (j := 7) rfl (O7.1.at.ld (j := 3) rfl (O7.1.at.ld (j := 4) rfl (O7.1.at.ld (j := 5) rfl ?_)))
    refine (T7.seal secS (by omega) hk64).use ?_
    rintro r38 w9 ⟨a1, a2, F9, T9, st9⟩
    have O9 := O7.stp st9
    refine O9.1.at.ld (j := 3) rfl (O9.1.at.ld (j := 4) rfl (O9.1.at.ld (j := 5) rfl ?_))
    refine (T9.seal2 (by omega) hk64).use ?_
    rintro r43 w10 ⟨b1, b2, G10, T10⟩
    rw [seal_re (x := o.text) htx ht] at b1 b2 T10
    dsimp only at b1 b2 T10
    have K1 := T10.kp (r38.2.1, (sealV lst o.text o.k o.n o.seed).2.2.1) (by simp)
    have K2 := T10.kp (r43.2.1, (sealV lst o.text o.k o.n o.seed).2.2.1) (by simp)
    refine jn_orW (W := w10) (v := false) (Only.refl _ _) (fun _ => ?_) fun w12 q12 => ?_
    · refine (same45_c w10 r38.2.1 r43.2.1 _ _ K1.1.1 K2.1.1 (by have := K1.2; omega)).use ?_
      rintro r48 w11 ⟨rfl, q11⟩
      refine ⟨by simp, q11⟩
    have hl2 := sealV_len lst o.text o.k o.n o.seed
    have T12 := T10.qt secS q12
    refine ⟨fun g => ?_, fun _ => ⟨fun _ => ?_, fun _ => ?_⟩⟩
    · rw [a1, a2, b1, b2] at g
      simp at g
    · refine T12.push secS (x := (r38.2.1, (sealV lst o.text o.k o.n o.seed).2.2.1)) (by simp) (by omega) fun r53 w14 R14 T14 => ?_
      exact ⟨F9, G10, R14, _, _, by omega, by rw [List.length_append, List.length_singleton]; omega, T14.drop⟩
    · exact ⟨F9, G10, R, _, _, by omega, by omega, T12.drop⟩
  · -- an opening
    have rrd : ∀ {w : World} {F G R : Nat → Prop} {lS lQ : List Bo}, TX IsS B w F G R sb rb sh lS lQ rows rows → ∀ x ∈ rows, Rd w pt 2 x.1 x.2 ∧ x.2.length ≤ 1000 := fun T x hx => ⟨(T.kp x hx).1.1, by have := (T.kp x hx).2; omega⟩
    refine jn.mk (fun (r : ByteArray × Int) w' => OpenR lst o.box (chosenP rows o tz) r ∧ Quiet w7 w') ?_ ?_
    · show tk _ _
      unfold tk
      have qd : Quiet w7 w7.drew := Only.drew _ _
      have T15 := T7.qt secS qd
      have O15 := O7.q qd
      generalize w7.drew = w15 at *
      refine O15.1.at.ld (j := 1) rfl (op_ld O15.1.at ?_)
      refine (chosen_o w15 sh rows o tz (T15.r.rd cR1 (by decide)) (rrd T15) ⟨hTk.1.keepQ T15.nw_.1, hTk.2⟩ (by omega)).use ?_
      rintro r67 w16 ⟨D, o67, f67, l67⟩
      refine ⟨(O15.q f67.q).1.at.cj (j := 1) rfl, ?_⟩
      refine (open_s w16 F sb lst o.box r67 _ (T15.qt secS f67.q).s (o67.rd pt_len (by decide)) o67.cap (by omega)).use ?_
      rintro r68 w17 ⟨h68, q17⟩
      exact ⟨h68, (qd.tr f67.q).tr q17⟩
    rintro l69 w18 ⟨h69, q18⟩
    have T18 := T7.qt secS q18
    have O18 := O7.q q18
    refine jn.mk (fun (r : ByteArray × Int) w' => OpenR (lst.map (re t)) o.box (chosenP rows o tz) r ∧ Quiet w18 w') ?_ ?_
    · show tk _ _
      unfold tk
      have qd : Quiet w18 w18.drew := Only.drew _ _
      have T15 := T18.qt secS qd
      have O15 := O18.q qd
      generalize w18.drew = w15 at *
      refine O15.1.at.ld (j := 1) rfl (op_ld O15.1.at ?_)
      refine (chosen_o w15 sh rows o tz (T15.r.rd cR1 (by decide)) (rrd T15) ⟨hTk.1.keepQ T15.nw_.1, hTk.2⟩ (by omega)).use ?_
      rintro r67 w16 ⟨D, o67, f67, l67⟩
      refine ⟨(O15.q f67.q).1.at.cj (j := 1) rfl, ?_⟩
      refine (open_s w16 G rb _ o.box r67 _ (T15.qt secS f67.q).q (o67.rd pt_len (by decide)) o67.cap (by omega)).use ?_
      rintro r68 w17 ⟨h68, q17⟩
      exact ⟨h68, (qd.tr f67.q).tr q17⟩
    rintro l84 w22 ⟨h84, q22⟩
    obtain ⟨x1, x2, x3⟩ := open_re h69 h84
    refine ⟨fun g => ?_, fun _ => ⟨F, G, R, lst, rows, by omega, by omega, T18.qt secS q22⟩⟩
    exfalso
    by_cases hz : l69.2 = 0
    · have hz' : l84.2 = 0 := by rw [← x1]; exact hz
      rw [hz, hz', x2 hz] at g
      simp [beqS_e] at g
    · obtain ⟨y1, y2⟩ := x3 hz
      rw [y1, y2, x1] at g
      have hz' : l84.2 ≠ 0 := by rw [← x1]; exact hz
      simp [beqS_e, e0, hz'] at g
  · -- a burning
    refine jn.mk (fun (r : Bool) w' => r = false ∧ ∃ F G, TX IsS B w' F G R sb rb sh (burnL lst o.box).1 ((burnL lst o.box).1.map (re t)) rows rows) ?_ ?_
    · show tk _ _
      unfold tk
      have qd : Quiet w7 w7.drew := Only.drew _ _
      have T15 := T7.qt secS qd
      have O15 := O7.q qd
      generalize w7.drew = w23 at *
      refine O15.1.at.ld (j := 1) rfl (O15.1.at.ld (j := 1) rfl ?_)
      refine (T15.burn secS (by omega)).use ?_
      rintro r93 w24 ⟨rfl, F24, T24, st24⟩
      refine ⟨(O15.stp st24).1.at.cj (j := 1) rfl, ?_⟩
      refine (T24.burn2 (by omega)).use ?_
      rintro r94 w25 ⟨rfl, G25, T25⟩
      rw [burn_re] at T25 ⊢
      exact ⟨by simp, F24, G25, T25⟩
    rintro _ w26 ⟨rfl, F', G', T26⟩
    refine ⟨fun g => (by cases g), fun _ => ⟨F', G', R, _, rows, by rw [burn_len]; omega, by omega, T26⟩⟩
  · exact ⟨F, G, R, lst, rows, by omega, by omega, T7⟩
end Go.Proofs.Ytmnhehklhelpeaa
