import Derived.Test.YtnoahloppffndaaXb
namespace Go.Proofs.Ytnoahloppffndaa
open Go.Dec Go.RowKit
set_option maxHeartbeats 1600000
set_option maxRecDepth 10000

theorem parts_pos {a : Ap} (h : CheckA a = 0) : 1 ≤ a.parts := by
  unfold CheckA at h
  by_cases h1 : RightA a
  · by_cases h2 : RangeA a
    · exact h2.2.1.1
    · rw [if_neg (fun c => c h1), if_pos h2] at h
      cases h
  · rw [if_pos h1] at h
    cases h
theorem bestL_eq (a : Ap) : bestL a = [bestW a 0, bestW a 1, bestW a 2, bestW a 3, bestW a 4, bestW a 5, bestW a 6, bestW a 7, bestW a 8] := rfl
theorem compile_c (w : World) (a : Ap) (s : Sl) (h : Rd w cb 1 s a.types) (hs : s.len ≤ s.cap) :
    callC Try.prog 18 #[pfv (pfOf a s)] (fun (r : Sl × Int) => .tuple #[Sl.v r.1, .int .i64 r.2]) w fun r w' => r.2 = CheckA a ∧ (CheckA a ≠ 0 → r.1 = Sl.nil) ∧ (CheckA a = 0 → ∃ F, OwnF w' F 46 2 r.1 ((bestL a).flatMap wy) ∧ Fresh w w' F) ∧ Quiet w w' := by
  refine D18 _ _ _ _ _ _ _ _ _ _ _ _ _ _ _ _ _ _ _ _ _ _ w _ ?_
  unfold F18
  refine nwL fun b9 w1 hb9 q1 _ _ _ => ?_
  have hb9 : IsPf w1 b9 (pfOf a s) := hb9
  refine pf_ld hb9.at ((check_c w1 a s (h.keepQ q1) hs).use ?_)
  rintro _ w2 ⟨rfl, q2⟩
  refine ⟨fun g => ⟨rfl, fun _ => rfl, fun e => absurd e (nd g), q1.tr q2⟩, fun g => ?_⟩
  have hC := nt g
  have hp := parts_pos hC
  refine nwL fun b34 w3 hb34 q34 g34 _ l34 => nwL fun b35 w4 hb35 q35 g35 _ l35 => nwL fun b36 w5 hb36 q36 g36 _ l36 => ?_
  have z2 := q2.size
  have z1 := q1.size
  have z34 := q34.size
  have z35 := q35.size
  have z36 := q36.size
  refine wy_st (x := ⟨0, 0⟩) (Blk.keepQ hb34 (q35.tr q36)) rfl fun w6 h34 on6 s6 => wy_st (x := ⟨2, 2⟩) (Blk.keep (Blk.keepQ hb35 q36) on6 fun e => by omega) rfl fun w7 h35 on7 s7 => wy_st (x := ⟨3, 2⟩) (Blk.keep (Blk.keep hb36 on6 fun e => by omega) on7 fun e => by omega) rfl fun w8 h36 on8 s8 => ?_
  have q28 : Quiet w2 w8 := ((q34.tr q35).tr q36).new (((on6.trans on7).trans on8).mono fun x _ e => e) fun x e => by rcases e with (e | e) | e <;> omega
  have h34 : IsWy w8 b34 ⟨0, 0⟩ := Blk.keep (Blk.keep h34 on7 fun e => by omega) on8 fun e => by omega
  have h35 : IsWy w8 b35 ⟨2, 2⟩ := Blk.keep h35 on8 fun e => by omega
  have h9 : IsPf w8 b9 (pfOf a s) := (hb9.keepQ q2).keepQ q28
  have q08 := (q1.tr q2).tr q28
  refine jn.mk (fun (r : Bool × Bool) w' => r = (decide (1 < a.parts), edits a) ∧ Quiet w8 w') ?_ ?_
  · show tk _ _
    unfold tk
    have qd : Quiet w8 w8.drew := Only.drew _ _
    have A := (h9.keepQ qd).at
    refine A.ld (j := 9) rfl (A.ld (j := 1) rfl ⟨fun e => A.ld (j := 2) rfl ⟨?_, qd⟩, fun e => ⟨?_, qd⟩⟩)
    · have e : decide (a.edit = 2) = true := e
      unfold edits
      rw [e, Bool.true_and]
      rfl
    · have e : decide (a.edit = 2) = false := e
      unfold edits
      rw [e, Bool.false_and]
      rfl
  rintro _ w10 ⟨rfl, q10⟩
  dsimp only
  refine rn_makeN (n := 9) (x := (⟨0, 0⟩ : Wy)) ap25 zv46 rfl wy_len (by decide) (by decide) fun r47 w11 F o hrl f => ?_
  have A : ∀ w', Quiet w10 w' → AtC w' (Addr.mk b9 0 none) (pf (pfOf a s)) := fun w' q => ((h9.keepQ q10).keepQ q).at
  have B : ∀ w', Quiet w10 w' → AtC w' (Addr.mk b34 0 none) (wy ⟨0, 0⟩) := fun w' q => ((h34.keepQ q10).keepQ q).at
  have T : ∀ w', Quiet w10 w' → AtC w' (Addr.mk b35 0 none) (wy ⟨2, 2⟩) := fun w' q => ((h35.keepQ q10).keepQ q).at
  have N : ∀ w', Quiet w10 w' → AtC w' (Addr.mk b36 0 none) (wy ⟨3, 2⟩) := fun w' q => ((h36.keepQ q10).keepQ q).at
  have ep : decide (1 < a.parts) = decide (2 ≤ a.parts) := decide_eq_decide.2 (by omega)
  have ep1 : (!decide (1 < a.parts)) = decide (a.parts = 1) := by
    rw [Bool.eq_iff_iff, Bool.not_eq_true', decide_eq_false_iff_not, decide_eq_true_eq]
    omega
  have ef : decide (0 < a.files) = decide (1 ≤ a.files) := decide_eq_decide.2 (by omega)
  refine (B _ f.q).ld (j := 0) rfl ((B _ f.q).ld (j := 1) rfl (o.put (i := 0) (y := (⟨0, 0⟩ : Wy)) wy_len (by omega) (by decide) (by decide) fun w12 o on _ => ?_))
  replace f := f.only on
  clear on
  refine jp_and (v := decide (4400 ≤ IntKind.i64.wrap (a.size * a.parts))) (fun _ J hJ => (A _ f.q).ld (j := 8) rfl ((A _ f.q).ld (j := 9) rfl hJ)) ?_
  refine ?_
  refine nwL fun bc wc hbc qc _ _ _ => (first_c wc _ [⟨decide (1 < a.parts) && decide (4400 ≤ IntKind.i64.wrap (a.size * a.parts)), 1, 1⟩, ⟨decide (1 < a.parts), 4, 1⟩, ⟨true, 4, 0⟩] (cz_row hbc rfl rfl) (by simp)).use ?_
  rintro _ wd ⟨rfl, qd⟩
  replace qc := qc.tr qd
  replace o := o.keepQ qc
  replace f := f.keep qc
  have e1 : firstP [⟨decide (1 < a.parts) && decide (4400 ≤ IntKind.i64.wrap (a.size * a.parts)), 1, 1⟩, ⟨decide (1 < a.parts), 4, 1⟩, ⟨true, 4, 0⟩] = bestW a 1 := by
    rw [ep]
    rfl
  rw [e1]
  refine o.put (i := 1) (y := bestW a 1) wy_len (by omega) (by simp) (by decide) fun w' o on _ => ?_
  replace f := f.only on
  clear on
  refine (B _ f.q).ld (j := 0) rfl ((B _ f.q).ld (j := 1) rfl ((N _ f.q).ld (j := 0) rfl ((N _ f.q).ld (j := 1) rfl (?_))))
  refine nwL fun bc wc hbc qc _ _ _ => (first_c wc _ [⟨edits a, 0, 0⟩, ⟨true, 3, 2⟩] (cz_row hbc rfl rfl) (by simp)).use ?_
  rintro _ wd ⟨rfl, qd⟩
  replace qc := qc.tr qd
  replace o := o.keepQ qc
  replace f := f.keep qc
  have e2 : firstP [⟨edits a, 0, 0⟩, ⟨true, 3, 2⟩] = bestW a 2 := by
    rfl
  rw [e2]
  refine o.put (i := 2) (y := bestW a 2) wy_len (by omega) (by simp) (by decide) fun w' o on _ => ?_
  replace f := f.only on
  clear on
  refine (A _ f.q).ld (j := 3) rfl ((B _ f.q).ld (j := 0) rfl ((B _ f.q).ld (j := 1) rfl ((N _ f.q).ld (j := 0) rfl ((N _ f.q).ld (j := 1) rfl (?_)))))
  refine nwL fun bc wc hbc qc _ _ _ => (first_c wc _ [⟨!decide (a.delete = 0), 0, 0⟩, ⟨edits a, 2, 0⟩, ⟨true, 3, 2⟩] (cz_row hbc rfl rfl) (by simp)).use ?_
  rintro _ wd ⟨rfl, qd⟩
  replace qc := qc.tr qd
  replace o := o.keepQ qc
  replace f := f.keep qc
  have e3 : firstP [⟨!decide (a.delete = 0), 0, 0⟩, ⟨edits a, 2, 0⟩, ⟨true, 3, 2⟩] = bestW a 3 := by
    rfl
  rw [e3]
  refine o.put (i := 3) (y := bestW a 3) wy_len (by omega) (by simp) (by decide) fun w' o on _ => ?_
  replace f := f.only on
  clear on
  refine (A _ f.q).ld (j := 4) rfl ((B _ f.q).ld (j := 0) rfl ((B _ f.q).ld (j := 1) rfl ((A _ f.q).ld (j := 4) rfl ((N _ f.q).ld (j := 0) rfl ((N _ f.q).ld (j := 1) rfl (?_))))))
  refine nwL fun bc wc hbc qc _ _ _ => (first_c wc _ [⟨a.react && (!decide (1 < a.parts)), 0, 0⟩, ⟨a.react, 0, 1⟩, ⟨true, 3, 2⟩] (cz_row hbc rfl rfl) (by simp)).use ?_
  rintro _ wd ⟨rfl, qd⟩
  replace qc := qc.tr qd
  replace o := o.keepQ qc
  replace f := f.keep qc
  have e4 : firstP [⟨a.react && (!decide (1 < a.parts)), 0, 0⟩, ⟨a.react, 0, 1⟩, ⟨true, 3, 2⟩] = bestW a 4 := by
    rw [ep1]
    rfl
  rw [e4]
  refine o.put (i := 4) (y := bestW a 4) wy_len (by omega) (by simp) (by decide) fun w' o on _ => ?_
  replace f := f.only on
  clear on
  refine (A _ f.q).ld (j := 5) rfl ((B _ f.q).ld (j := 0) rfl ((B _ f.q).ld (j := 1) rfl ((A _ f.q).ld (j := 5) rfl ((T _ f.q).ld (j := 0) rfl ((T _ f.q).ld (j := 1) rfl (?_))))))
  refine nwL fun bc wc hbc qc _ _ _ => (first_c wc _ [⟨decide (a.thread = 2), 0, 0⟩, ⟨decide (a.thread = 1), 2, 1⟩, ⟨true, 2, 2⟩] (cz_row hbc rfl rfl) (by simp)).use ?_
  rintro _ wd ⟨rfl, qd⟩
  replace qc := qc.tr qd
  replace o := o.keepQ qc
  replace f := f.keep qc
  have e5 : firstP [⟨decide (a.thread = 2), 0, 0⟩, ⟨decide (a.thread = 1), 2, 1⟩, ⟨true, 2, 2⟩] = bestW a 5 := by
    rfl
  rw [e5]
  refine o.put (i := 5) (y := bestW a 5) wy_len (by omega) (by simp) (by decide) fun w' o on _ => ?_
  replace f := f.only on
  clear on
  refine (A _ f.q).ld (j := 6) rfl ((B _ f.q).ld (j := 0) rfl ((B _ f.q).ld (j := 1) rfl ((T _ f.q).ld (j := 0) rfl ((T _ f.q).ld (j := 1) rfl (?_)))))
  refine nwL fun bc wc hbc qc _ _ _ => (first_c wc _ [⟨a.quote, 0, 0⟩, ⟨true, 2, 2⟩] (cz_row hbc rfl rfl) (by simp)).use ?_
  rintro _ wd ⟨rfl, qd⟩
  replace qc := qc.tr qd
  replace o := o.keepQ qc
  replace f := f.keep qc
  have e6 : firstP [⟨a.quote, 0, 0⟩, ⟨true, 2, 2⟩] = bestW a 6 := by
    rfl
  rw [e6]
  refine o.put (i := 6) (y := bestW a 6) wy_len (by omega) (by simp) (by decide) fun w' o on _ => ?_
  replace f := f.only on
  clear on
  refine (A _ f.q).ld (j := 7) rfl ((B _ f.q).ld (j := 0) rfl ((B _ f.q).ld (j := 1) rfl ((T _ f.q).ld (j := 0) rfl ((T _ f.q).ld (j := 1) rfl (?_)))))
  refine nwL fun bc wc hbc qc _ _ _ => (first_c wc _ [⟨a.mention, 0, 0⟩, ⟨true, 2, 2⟩] (cz_row hbc rfl rfl) (by simp)).use ?_
  rintro _ wd ⟨rfl, qd⟩
  replace qc := qc.tr qd
  replace o := o.keepQ qc
  replace f := f.keep qc
  have e7 : firstP [⟨a.mention, 0, 0⟩, ⟨true, 2, 2⟩] = bestW a 7 := by
    rfl
  rw [e7]
  refine o.put (i := 7) (y := bestW a 7) wy_len (by omega) (by simp) (by decide) fun w' o on _ => ?_
  replace f := f.only on
  clear on
  refine (A _ f.q).ld (j := 10) rfl ((B _ f.q).ld (j := 0) rfl ((B _ f.q).ld (j := 1) rfl ((A _ f.q).ld (j := 10) rfl ((T _ f.q).ld (j := 0) rfl ((T _ f.q).ld (j := 1) rfl (?_))))))
  refine nwL fun bc wc hbc qc _ _ _ => (first_c wc _ [⟨decide (a.files = 4), 0, 0⟩, ⟨decide (0 < a.files), 4, 1⟩, ⟨true, 2, 2⟩] (cz_row hbc rfl rfl) (by simp)).use ?_
  rintro _ wd ⟨rfl, qd⟩
  replace qc := qc.tr qd
  replace o := o.keepQ qc
  replace f := f.keep qc
  have e8 : firstP [⟨decide (a.files = 4), 0, 0⟩, ⟨decide (0 < a.files), 4, 1⟩, ⟨true, 2, 2⟩] = bestW a 8 := by
    rw [ef]
    rfl
  rw [e8]
  refine o.put (i := 8) (y := bestW a 8) wy_len (by omega) (by simp) (by decide) fun w' o on _ => ?_
  replace f := f.only on
  clear on
  refine ⟨hC.symm, fun e => absurd hC e, fun _ => ⟨F, o, f.after (q08.tr q10)⟩, (q08.tr q10).tr f.q⟩

/-- what the ways of a construct are -/
theorem bestW_ok (a : Ap) (c : Int) : badW (bestW a c) = false ∧ (⟨(bestW a c).how, (bestW a c).finds, true⟩ : Op) ∈ optsP a c := by
  have key : ∀ l : List Op, (∃ x ∈ l, x.may = true) → (⟨(pickO l).how, (pickO l).finds, true⟩ : Op) ∈ l := by
    intro l
    induction l with
    | nil => rintro ⟨x, hx, _⟩; cases hx
    | cons y l ih =>
      rintro ⟨x, hx, hm⟩
      rw [pickO]
      split
      · rename_i h
        rw [← h]
        exact List.mem_cons_self
      · rename_i h
        rcases List.mem_cons.1 hx with e | e
        · exact absurd (e ▸ hm) h
        · exact List.mem_cons_of_mem _ (ih ⟨x, e, hm⟩)
  have h2 := key (optsP a c) (opts_last a c)
  refine ⟨?_, h2⟩
  have h3 : ∀ x ∈ optsP a c, badW ⟨x.how, x.finds⟩ = false := by
    unfold optsP
    repeat' split
    all_goals simp [badW]
  exact h3 _ h2
theorem bestL_right (a : Ap) : RightW (bestL a) := by
  refine ⟨bestL_len a, fun x hx => ?_⟩
  unfold bestL at hx
  obtain ⟨c, _, rfl⟩ := List.mem_map.1 hx
  exact (bestW_ok a c).1
theorem bestL_in (a : Ap) : allIn a (bestL a) := fun c x hx => by
  have hc : c < 9 := by
    have := (List.getElem?_eq_some_iff.1 hx).1
    rw [bestL_len] at this
    exact this
  rw [bestL_at a hc] at hx
  injection hx with hx
  subst hx
  exact (bestW_ok a c).2
theorem cert_best {a : Ap} (h : CheckA a = 0) : CertA a (bestL a) = (certP (bestL a), 0) := by
  unfold CertA
  rw [if_neg (fun c => c h), if_neg (fun c => c (bestL_right a))]
end Go.Proofs.Ytnoahloppffndaa
