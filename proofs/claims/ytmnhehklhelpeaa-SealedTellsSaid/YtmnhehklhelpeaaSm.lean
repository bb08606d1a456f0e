import Derived.Test.YtmnhehklhelpeaaSk
namespace Go.Proofs.Ytmnhehklhelpeaa
open Go.Dec Go.RowKit
set_option maxHeartbeats 3200000
set_option maxRecDepth 10000

theorem tells (W : World) (s : Sl) (l : List Op) (h : Rd W op 9 s l) (_ : ∀ ad, s.a = some ad → 0 < l.length → ad.block < W.heap.size) (hl : l.length ≤ maxLen) (hg : ∀ o ∈ l, GoodO W o) :
    callC Try.prog 6 #[s.v] (fun (r : Bool) => .bool r) W fun r w' => r = true ∧ Below W.heap.size W w' := by
  have hsl := h.len
  refine callC.use (R := fun r w' => r = true ∧ Quiet W w') ?_ fun _ _ h => ⟨h.1, bq h.2⟩
  refine D6 _ W _ ?_
  unfold F6
  refine (small_s W).use ?_
  rintro _ B ⟨rfl, q1⟩
  refine (few_o B s l (h.keepQ q1) hl).use ?_
  rintro r10 w2 ⟨hf, rfl⟩
  refine ⟨fun g => ⟨rfl, q1⟩, fun g => ?_⟩
  obtain ⟨hl20, hf2⟩ := hf (by simpa using g)
  have hB := h.keepQ q1
  have htk : ∀ o ∈ l, (∃ tk, Tk B o tk) ∧ -9223372036854775808 ≤ o.k := fun o ho => by
    obtain ⟨⟨tk, htk⟩, hk⟩ := hg o ho
    have := (hf2 o ho).2
    have := htk.len
    exact ⟨⟨tk, htk.keepQ q1, by omega⟩, hk⟩
  clear h hg hf hf2 g
  refine (new_s B).use ?_
  rintro _ w3 ⟨sb0, F0, rfl, hS0, q3, f3⟩
  refine nwL fun rb w4 hb4 q4 g4 z4 l4 => ?_
  have T0 : TX IsQ B w4 F0 (fun x => x = rb) (fun _ => False) sb0 rb Sl.nil [] [] [] [] := by
    have lt3 := hS0.lt
    refine ⟨hS0.keepQ q4, ⟨⟨fun _ => False, Sl.nil, hb4, OwnF.nil _ _ _ _, id, rfl, fun b e => e.elim⟩, fun b e => by omega⟩, OwnF.nil _ _ _ _, fun b e => e.elim, fun b e e' => ?_, fun _ _ => id, fun _ _ => id, fun x hx => hx, fun x hx => (by cases hx), ⟨q3.tr q4, fun b e => ?_⟩⟩
    · have := lt3 b e
      omega
    · have := q3.size
      rcases e with e | e | e
      · exact f3 b e
      · omega
      · exact e.elim
  refine ⟨fun (c : Option Addr × Sl × Int) w' => 0 ≤ c.2.2 ∧ c.2.2 ≤ l.length ∧ ∃ sb F G R lst rows, c.1 = some ⟨sb, 0, none⟩ ∧ (lst.length : Int) ≤ c.2.2 ∧ (rows.length : Int) ≤ c.2.2 ∧ TX IsQ B w' F G R sb rb c.2.1 lst lst rows rows, fun c _ => (l.length - c.2.2).toNat, ⟨by simp, by (try dsimp only); omega, sb0, F0, _, _, [], [], rfl, by simp, by simp, T0⟩, ?_⟩
  clear T0 hb4 hS0
  rintro ⟨cur, sh, i⟩ w5 ⟨i0, i1, sb, F, G, R, lst, rows, ec, e1, e2, T5⟩
  dsimp only at i0 i1 ec e1 e2 T5 ⊢
  subst ec
  refine ⟨fun hi => ?_, fun hi => ⟨rfl, q1.tr T5.nw_.1⟩⟩
  have hi : i < (l.length : Int) := by
    rw [Bool.and_eq_true, decide_eq_true_eq] at hi
    omega
  obtain ⟨o, ho⟩ := getq (l := l) i0 hi
  obtain ⟨⟨tz, hTk⟩, hk64⟩ := htk o (List.mem_of_getElem? ho)
  refine (hB.keepQ T5.nw_.1).ixx i0 ho fun p18 h18 _ => op_ld h18 ?_
  refine box_all (vs := op o) rfl fun b28 w7 hb7 q7 g7 l7 => ?_
  have lt5 := T5.lt secQ
  have O7 : OpK w7 (un F G R) b28 o := ⟨hb7, fun e => by have := lt5 b28 e; omega, l7⟩
  have T7 := T5.qt secQ q7
  clear hb7 T5 lt5
  refine jn.mk (fun (r : Option Addr × Sl) w' => ∃ sb F G R lst rows, r.1 = some ⟨sb, 0, none⟩ ∧ (lst.length : Int) ≤ i + 1 ∧ (rows.length : Int) ≤ i + 1 ∧ TX IsQ B w' F G R sb rb r.2 lst lst rows rows) ?_ ?_
  rotate_left
  · rintro ⟨cur', sh'⟩ w8 ⟨sb', F', G', R', lst', rows', ec', e1', e2', T8⟩
    dsimp only at ec' T8 ⊢
    subst ec'
    refine jn_any' (W := w8) false ?_ fun w32 q32 => ?_
    · show tk _ _
      unfold tk
      have qd : Quiet w8 w8.drew := Only.drew _ _
      have T9 := T8.qt secQ qd
      generalize w8.drew = w30 at *
      obtain ⟨H, xs, h1, h2, _⟩ := T9.q.ex
      have hxl := (h2.rd cQ3 (by decide)).len
      refine h1.ld (o := 0) (i := 0) rfl ?_
      refine use_same (len_s w30 F' sb' lst' T9.s) ⟨h1.ld0' rfl, ?_⟩
      refine ⟨?_, qd⟩
      rw [hxl]
      simp
    · refine ⟨fun g => (by cases g), fun _ => ?_⟩
      rw [w64 (by omega) (by omega)]
      exact ⟨⟨by (try dsimp only); omega, by (try dsimp only); omega, sb', F', G', R', lst', rows', rfl, e1', e2', T8.qt secQ q32⟩, by (try dsimp only); omega⟩
  refine O7.1.at.ld (j := 0) rfl ⟨fun k0 => ?_, fun k0 => ⟨fun k1 => ?_, fun k1 => ⟨fun k2 => ?_, fun k2 => ⟨fun k3 => ?_, fun k3 => ?_⟩⟩⟩⟩
  · -- a sealing
    refine O7.1.at.ld (j := 7) rfl (O7.1.at.ld (j := 3) rfl (O7.1.at.ld (j := 4) rfl (O7.1.at.ld (j := 5) rfl ?_)))
    refine (T7.seal secQ (by omega) hk64).use ?_
    rintro r38 w9 ⟨a1, a2, F9, T9, st9⟩
    have O9 := O7.stp st9
    refine O9.1.at.ld (j := 7) rfl (O9.1.at.ld (j := 3) rfl (O9.1.at.ld (j := 4) rfl (O9.1.at.ld (j := 5) rfl ?_)))
    refine (T9.rseal (by omega)).use ?_
    rintro r43 w10 ⟨b1, b2, G10, T10⟩
    have K1 := T10.kp (r38.2.1, (sealV lst o.text o.k o.n o.seed).2.2.1) (by simp)
    have K2 := T10.kp (r43.2.1, (sealV lst o.text o.k o.n o.seed).2.2.1) (by simp)
    refine jn_orW (W := w10) (v := false) (Only.refl _ _) (fun _ => ?_) fun w12 q12 => ?_
    · refine (same45_c w10 r38.2.1 r43.2.1 _ _ K1.1.1 K2.1.1 (by have := K1.2; omega)).use ?_
      rintro r48 w11 ⟨rfl, q11⟩
      refine ⟨by simp, q11⟩
    have hl2 := sealV_len lst o.text o.k o.n o.seed
    have T12 := T10.qt secQ q12
    refine ⟨fun g => ?_, fun _ => ⟨fun _ => ?_, fun _ => ?_⟩⟩
    · rw [a1, a2, b1, b2] at g
      simp at g
    · refine T12.push secQ (x := (r43.2.1, (sealV lst o.text o.k o.n o.seed).2.2.1)) (by simp) (by omega) fun r53 w14 R14 T14 => ?_
      exact ⟨sb, F9, G10, R14, _, _, rfl, by omega, by rw [List.length_append, List.length_singleton]; omega, T14.drop⟩
    · exact ⟨sb, F9, G10, R, _, _, rfl, by omega, by omega, T12.drop⟩
  · -- an opening
    have rrd : ∀ {w : World} {F G R : Nat → Prop} {lS lQ : List Bo}, TX IsQ B w F G R sb rb sh lS lQ rows rows → ∀ x ∈ rows, Rd w pt 2 x.1 x.2 ∧ x.2.length ≤ 1000 := fun T x hx => ⟨(T.kp x hx).1.1, by have := (T.kp x hx).2; omega⟩
    refine jn.mk (fun (r : ByteArray × Int) w' => OpenR lst o.box (chosenP rows o tz) r ∧ Quiet w7 w') ?_ ?_
    · show Go.Dec.tk _ _
      unfold Go.Dec.tk
      have qd : Quiet w7 w7.drew := Only.drew _ _
      have T15 := T7.qt secQ qd
      have O15 := O7.q qd
      generalize w7.drew = w15 at *
      refine O15.1.at.ld (j := 1) rfl (op_ld O15.1.at ?_)
      refine (chosen_o w15 sh rows o tz (T15.r.rd cR1 (by decide)) (rrd T15) ⟨hTk.1.keepQ T15.nw_.1, hTk.2⟩ (by omega)).use ?_
      rintro r67 w16 ⟨D, o67, f67, l67⟩
      refine ⟨(O15.q f67.q).1.at.cj (j := 1) rfl, ?_⟩
      refine (open_s w16 F sb lst o.box r67 _ (T15.qt secQ f67.q).s (o67.rd pt_len (by decide)) o67.cap (by omega)).use ?_
      rintro r68 w17 ⟨h68, q17⟩
      exact ⟨h68, (qd.tr f67.q).tr q17⟩
    rintro l69 w18 ⟨h69, q18⟩
    have T18 := T7.qt secQ q18
    have O18 := O7.q q18
    refine jn.mk (fun (r : ByteArray × Int) w' => OpenR lst o.box (chosenP rows o tz) r ∧ Quiet w18 w') ?_ ?_
    · show Go.Dec.tk _ _
      unfold Go.Dec.tk
      have qd : Quiet w18 w18.drew := Only.drew _ _
      have T15 := T18.qt secQ qd
      have O15 := O18.q qd
      generalize w18.drew = w15 at *
      refine O15.1.at.ld (j := 1) rfl (op_ld O15.1.at ?_)
      refine (chosen_o w15 sh rows o tz (T15.r.rd cR1 (by decide)) (rrd T15) ⟨hTk.1.keepQ T15.nw_.1, hTk.2⟩ (by omega)).use ?_
      rintro r67 w16 ⟨D, o67, f67, l67⟩
      refine ⟨(O15.q f67.q).1.at.cj (j := 1) rfl, ?_⟩
      refine (ropen_s w16 G rb lst o.box r67 _ (T15.qt secQ f67.q).q (o67.rd pt_len (by decide)) o67.cap (by omega)).use ?_
      rintro r68 w17 ⟨h68, q17⟩
      exact ⟨h68, (qd.tr f67.q).tr q17⟩
    rintro l84 w22 ⟨h84, q22⟩
    have := OpenR.uniq h69 h84
    subst this
    refine ⟨fun g => ?_, fun _ => ⟨sb, F, G, R, lst, rows, rfl, by omega, by omega, T18.qt secQ q22⟩⟩
    simp [beqS_e] at g
  · -- a burning
    refine jn.mk (fun (r : Bool) w' => r = false ∧ ∃ F G, TX IsQ B w' F G R sb rb sh (burnL lst o.box).1 (burnL lst o.box).1 rows rows) ?_ ?_
    · show Go.Dec.tk _ _
      unfold Go.Dec.tk
      have qd : Quiet w7 w7.drew := Only.drew _ _
      have T15 := T7.qt secQ qd
      have O15 := O7.q qd
      generalize w7.drew = w23 at *
      refine O15.1.at.ld (j := 1) rfl (O15.1.at.ld (j := 1) rfl ?_)
      refine (T15.burn secQ (by omega)).use ?_
      rintro r93 w24 ⟨rfl, F24, T24, st24⟩
      refine ⟨(O15.stp st24).1.at.cj (j := 1) rfl, ?_⟩
      refine T24.rburn.use ?_
      rintro r94 w25 ⟨rfl, G25, T25⟩
      exact ⟨by simp, F24, G25, T25⟩
    rintro _ w26 ⟨rfl, F', G', T26⟩
    refine ⟨fun g => (by cases g), fun _ => ⟨sb, F', G', R, _, rows, rfl, by rw [burn_len]; omega, by omega, T26⟩⟩
  · -- a copy
    refine (copy_s w7 F sb lst T7.s (by omega)).use ?_
    rintro _ w27 ⟨ub, F27, rfl, C27, q27, f27⟩
    refine ⟨fun g => by simp at g, fun _ => ?_⟩
    have lt7 := T7.lt secQ
    have T27 := T7.qt secQ q27
    have O27 := O7.q q27
    have cl := C27.lt
    refine (seal_c w27 F sb lst _ 1 1 0 T27.s (by omega) (by decide)).use ?_
    rintro _ w28 ⟨F28, l28, S28, st28, hr28⟩
    have T28 := T27.s1 secQ st28 S28
    have O28 := O27.stp (un1 (G := G) (R := R) st28)
    have d1 : ∀ b, F27 b → ¬ F b := fun b hb e => by
      have := f27 b hb
      have := lt7 b (.inl e)
      omega
    have C28 := C27.keep st28.only d1
    have d2 : ∀ b, F27 b → ¬ F28 b := fun b hb e => by
      rcases st28.sub b e with e | e
      · exact d1 b hb e
      · have := cl b hb
        omega
    refine O28.1.at.ld (j := 1) rfl ?_
    have hl28 : l28.length ≤ lst.length + 1 := by
      rcases hr28.grow with ⟨rfl, _⟩ | rfl
      · omega
      · simp
    refine (burn_s w28 F28 sb l28 o.box S28 (by omega)).use ?_
    rintro _ w29 ⟨_, F29, S29, st29⟩
    have T29 := T28.s1 secQ st29 S29
    have C29 := C28.keep st29.only d2
    refine ⟨ub, F27, G, R, lst, rows, rfl, by omega, by omega, T29.rep C29 (fun b hb e => ?_) (fun b hb e => ?_) (fun b hb => ?_) fun x hx ad ha e => ?_⟩
    · have := f27 b hb
      have := lt7 b (.inr (.inl e))
      omega
    · have := f27 b hb
      have := lt7 b (.inr (.inr e))
      omega
    · have := f27 b hb
      have := T7.nw_.1.size
      omega
    · have := f27 _ e
      have := ((T7.kp x hx).1.2.2 ad ha).1
      omega
  · exact ⟨sb, F, G, R, lst, rows, rfl, by omega, by omega, T7⟩
end Go.Proofs.Ytmnhehklhelpeaa
