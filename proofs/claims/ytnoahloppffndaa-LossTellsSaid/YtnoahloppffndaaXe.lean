import Derived.Test.YtnoahloppffndaaXd
namespace Go.Proofs.Ytnoahloppffndaa
open Go.Dec Go.RowKit
set_option maxHeartbeats 1600000
set_option maxRecDepth 10000

theorem allIn_iff (a : Ap) (l : List Wy) : allIn a l ↔ ∀ p ∈ l.zipIdx, (⟨p.1.how, p.1.finds, true⟩ : Op) ∈ optsP a (p.2 : Int) := by
  constructor
  · rintro h ⟨x, c⟩ hp
    exact h c x (List.mk_mem_zipIdx_iff_getElem?.1 hp)
  · intro h c x hx
    exact h (x, c) (List.mk_mem_zipIdx_iff_getElem?.2 hx)
instance (a : Ap) (l : List Wy) : Decidable (allIn a l) := decidable_of_iff _ (allIn_iff a l).symm
/-- what Check returns -/
def chkP (a : Ap) (l : List Wy) (m : List Lo) : Int := if (CertA a l).2 ≠ 0 then (CertA a l).2 else if ¬ allIn a l then 7 else if l = bestL a ∧ certP l = m then 0 else 18
theorem chk_eq {a : Ap} {l : List Wy} {m : List Lo} {r : Int} (h : ChkR a l m r) : r = chkP a l m := by
  unfold chkP
  rcases h with ⟨h1, h2⟩ | ⟨h1, ⟨h2, h3⟩ | ⟨h2, ⟨h3, h4, h5⟩ | ⟨h3, h4⟩⟩⟩
  · rw [if_pos h1, h2]
  · rw [if_neg (fun c => c h1), if_pos h2, h3]
  · rw [if_neg (fun c => c h1), if_neg (fun c => c h2), if_pos ⟨h3, h4⟩, h5]
  · rw [if_neg (fun c => c h1), if_neg (fun c => c h2), if_neg h3, h4]

/-! ### the examples -/
def sampA : Ap := { name := ⟨#[112]⟩, edit := 2, within := 0, delete := 0, react := true, thread := 1, quote := true, mention := false, size := 100, parts := 3, files := 2, bytes := 1000, types := [⟨#[112, 110, 103]⟩], join := 0, history := 0, remove := 0, level := 0, batch := false, rate := 1, down := 0, window := 1, keep := 0 }
def wantL : List Lo := [⟨1, 4, 1⟩, ⟨3, 2, 0⟩, ⟨5, 2, 1⟩, ⟨7, 2, 2⟩, ⟨8, 4, 1⟩]
def badL : List Wy := (bestL sampA).set 3 ⟨3, 2⟩
def wrongL : List Wy := (bestL sampA).set 8 ⟨0, 0⟩
theorem samp_ok : CheckA sampA = 0 := by decide +kernel
theorem samp_want : certP (bestL sampA) = wantL := by decide +kernel
theorem strs {w : World} {b n : Nat} {l : List ByteArray} {cs : Array Value} (h : Blk w b 9 cs) (hn : cs.size = n) (hc : cs.toList = l.flatMap cb) (hl : n ≤ 100) : Rd w cb 1 (⟨some ⟨b, 0, none⟩, n, n⟩ : Sl) l := by
  have := own_row (n := n) (sz := 1) h (by omega) (by unfold maxLen; omega)
  rw [hc] at this
  exact this.rd cb1 (by decide)
theorem sample_c (w : World) : callC Try.prog 25 #[] E23 w fun r w' => ∃ s, r = pft (pfOf sampA s) ∧ Rd w' cb 1 s sampA.types ∧ s.len ≤ s.cap ∧ Quiet w w' := by
  refine D25 w _ ?_
  unfold F25
  refine nwL fun b1 w1 hb1 q1 g1 _ l1 => nwL fun b2 w2 hb2 q2 g2 _ _ => ?_
  refine pf_st (x := pfOf sampA ⟨some ⟨b2, 0, none⟩, 1, 1⟩) (hb1.keepQ q2) rfl fun w3 h3 on3 _ => pf_ld h3.at ⟨_, rfl, ?_, Nat.le_refl _, (q1.tr q2).new on3 fun x hx => by omega⟩
  exact strs (hb2.keep on3 (by omega)) rfl rfl (by decide)
theorem small_c (w : World) : callC Try.prog 8 #[] (fun (r : Bool) => .bool r) w fun r w' => r = true ∧ Quiet w w' := by
  refine D8 w _ ?_
  unfold F8
  refine (sample_c w).use ?_
  rintro r9 w1 ⟨s, rfl, hs, hsc, q1⟩
  refine pf_box (x := pfOf sampA s) fun b10 W hb10 q2 _ _ => ?_
  replace hs := hs.keepQ q2
  have Q := q1.tr q2
  have hA : ∀ w', Quiet W w' → AtC w' (Addr.mk b10 0 none) (pf (pfOf sampA s)) := fun w' q => (hb10.keepQ q).at
  clear hb10 q1 q2
  refine pf_ld (hA _ (Only.refl _ _)) ((compile_c W sampA s hs hsc).use ?_)
  rintro ⟨r34, e34⟩ w4 ⟨he, _, ho, q⟩
  dsimp only at he ho ⊢
  obtain ⟨F, ob, _⟩ := ho samp_ok
  rw [samp_ok] at he
  subst he
  have rb := ob.rd wy_len (by decide)
  have rbl := rb.len
  rw [bestL_len] at rbl
  clear ho ob
  refine ⟨fun g => ?_, fun _ => ?_⟩
  · rw [rbl] at g
    cases g
  refine nwL fun b38 w5 hb38 q5 _ _ _ => ?_
  have rw_ : Rd w5 lo 3 (⟨some ⟨b38, 0, none⟩, 5, 5⟩ : Sl) wantL := lo_row hb38 rfl rfl
  replace rb := rb.keepQ q5
  replace q := q.tr q5
  refine pf_ld (hA _ q) ((certify_c w5 sampA s r34 (bestL sampA) (hs.keepQ q) hsc rb).use ?_)
  rintro ⟨r61, e61⟩ w6 ⟨h61, _, he61, q6⟩
  dsimp only at h61 he61 ⊢
  rw [cert_best samp_ok, samp_want] at h61
  rw [cert_best samp_ok] at he61
  subst he61
  replace q := q.tr q6
  replace rb := rb.keepQ q6
  replace rw_ := rw_.keepQ q6
  -- the ways with a worse one
  refine rn_copy ap25 rb wy_len (by decide) wy_one (by rw [bestL_len]; decide) (by rw [bestL_len]; decide) fun r63 w8 F8 o8 _ f8 => ?_
  refine o8.put (i := 3) (y := (⟨3, 2⟩ : Wy)) wy_len (by omega) (by rw [bestL_len]; decide) (by decide) fun w9 o9 on9 _ => ?_
  have r63' : Rd w9 wy 2 r63 badL := o9.rd wy_len (by decide)
  have q69 := (f8.only on9).q
  clear o8 o9 f8 on9
  replace q := q.tr q69
  replace rb := rb.keepQ q69
  replace rw_ := rw_.keepQ q69
  replace h61 := h61.keepQ q69
  refine pf_ld (hA _ q) ((certify_c w9 sampA s r63 badL (hs.keepQ q) hsc r63').use ?_)
  rintro ⟨r88, e88⟩ w10 ⟨h88, _, _, q10⟩
  dsimp only at h88 ⊢
  replace q := q.tr q10
  replace rb := rb.keepQ q10
  replace rw_ := rw_.keepQ q10
  replace h61 := h61.keepQ q10
  replace r63' := r63'.keepQ q10
  refine rn_copy ap25 rb wy_len (by decide) wy_one (by rw [bestL_len]; decide) (by rw [bestL_len]; decide) fun r90 w12 F12 o12 _ f12 => ?_
  refine o12.put (i := 8) (y := (⟨0, 0⟩ : Wy)) wy_len (by omega) (by rw [bestL_len]; decide) (by decide) fun w13 o13 on13 _ => ?_
  have r90' : Rd w13 wy 2 r90 wrongL := o13.rd wy_len (by decide)
  have q1013 := (f12.only on13).q
  clear o12 o13 f12 on13
  replace q := q.tr q1013
  refine pf_ld (hA _ q) ((certify_c w13 sampA s r90 wrongL (hs.keepQ q) hsc r90').use ?_)
  rintro ⟨r115, e115⟩ w14 ⟨h115, _, _, q14⟩
  dsimp only at h115 ⊢
  replace q := q.tr q14
  have q1014 := q1013.tr q14
  replace rb := rb.keepQ q1014
  replace rw_ := rw_.keepQ q1014
  replace h61 := h61.keepQ q1014
  replace r63' := r63'.keepQ q1014
  replace h88 := h88.keepQ q1014
  replace r90' := r90'.keepQ q14
  have hs := hs.keepQ q
  have Q := Q.tr q
  replace hA : ∀ w', Quiet w14 w' → AtC w' (Addr.mk b10 0 none) (pf (pfOf sampA s)) := fun w' q' => hA w' (q.tr q')
  clear q q10 q6 q5 q69 q1013 q1014
  refine jn_any' (W := w14) true ?_ fun w20 q => ?_
  · show tk _ _
    unfold tk
    have q : Quiet w14 w14.drew := Only.drew _ _
    refine ⟨fun _ => ?_, fun g => (by cases g)⟩
    refine (same_c _ r61 _ _ _ (h61.keepQ q) (rw_.keepQ q) (by decide)).use ?_
    rintro _ w16 ⟨rfl, q16⟩
    replace q := q.tr q16
    refine ⟨fun _ => ?_, fun g => by simp at g⟩
    refine pf_ld (hA _ q) ((losscheck_c w16 sampA s r34 r61 (bestL sampA) wantL (hs.keepQ q) hsc (rb.keepQ q) (h61.keepQ q)).use ?_)
    rintro _ w17 ⟨hr, q17⟩
    obtain rfl := chk_eq hr
    replace q := q.tr q17
    have e1 : chkP sampA (bestL sampA) wantL = 0 := by decide +kernel
    rw [e1]
    refine ⟨fun _ => ?_, fun g => (by cases g)⟩
    refine pf_ld (hA _ q) (rn_upto ap26 (rw_.keepQ q) (Nat.le_refl _) (by decide) (by decide) fun r167 h167 _ _ => ⟨pf_cj (hA _ q), ?_⟩)
    refine (losscheck_c w17 sampA s r34 r167 (bestL sampA) _ (hs.keepQ q) hsc (rb.keepQ q) h167).use ?_
    rintro _ w19 ⟨hr, q19⟩
    obtain rfl := chk_eq hr
    exact ⟨by decide +kernel, q.tr q19⟩
  refine jn_andW (W := w14) (v := true) q (fun _ => pf_ld (hA _ q) ((losscheck_c w20 sampA s r63 r88 badL _ (hs.keepQ q) hsc (r63'.keepQ q) (h88.keepQ q)).use ?_)) fun w22 q => ?_
  · rintro _ w ⟨hr, q'⟩
    obtain rfl := chk_eq hr
    exact ⟨by decide +kernel, q.tr q'⟩
  refine jn_andW (W := w14) (v := true) q (fun _ => pf_ld (hA _ q) ((losscheck_c w22 sampA s r90 r115 wrongL _ (hs.keepQ q) hsc (r90'.keepQ q) (h115.keepQ (Only.refl _ _ |>.tr q))).use ?_)) fun w24 q => ?_
  · rintro _ w ⟨hr, q'⟩
    obtain rfl := chk_eq hr
    exact ⟨by decide +kernel, q.tr q'⟩
  refine jn_andW (W := w14) (v := true) q (fun _ => (worse_c w24 r61 Sl.nil wantL [] (h61.keepQ q) (Rd.nil _ _ _) (by decide) (by decide)).use ?_) fun w26 q => ?_
  · rintro _ w ⟨rfl, q'⟩
    exact ⟨by decide +kernel, q.tr q'⟩
  refine jn_andW (W := w14) (v := true) q (fun _ => (worse_c w26 r61 r61 wantL wantL (h61.keepQ q) (h61.keepQ q) (by decide) (by decide)).use ?_) fun w28 q => ?_
  · rintro _ w ⟨rfl, q'⟩
    exact ⟨by decide +kernel, q.tr q'⟩
  refine jn_andW (W := w14) (v := true) q (fun _ => (worse_c w28 r88 r61 _ wantL (h88.keepQ q) (h61.keepQ q) (by decide +kernel) (by decide)).use ?_) fun w30 q => ⟨rfl, Q.tr q⟩
  rintro _ w ⟨rfl, q'⟩
  exact ⟨by decide +kernel, q.tr q'⟩
end Go.Proofs.Ytnoahloppffndaa
