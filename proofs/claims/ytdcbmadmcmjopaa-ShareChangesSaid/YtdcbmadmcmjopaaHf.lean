import Derived.Test.YtdcbmadmcmjopaaHe
namespace Go.Proofs.Ytdcbmadmcmjopaa
open Go.Dec Go.RowKit
set_option maxHeartbeats 1600000
set_option maxRecDepth 10000

def f5 (x : Int) : Int := 2 * x + 5
theorem f5_P : IsP 2 f5 := ⟨[5, 2], by decide, fun x => cg.of (by simp [evp, f5]; omega)⟩
def two2 : List Pt := [⟨1, 7⟩, ⟨2, 9⟩]
def three2 : List Pt := [⟨1, 7⟩, ⟨2, 9⟩, ⟨3, 11⟩]
def bad2 : List Pt := [⟨1, 7⟩, ⟨2, 9⟩, ⟨3, 12⟩]
def twice2 : List Pt := [⟨1, 7⟩, ⟨1, 7⟩]
theorem two_w : WrongP two2 2 = 0 := by decide
theorem three_w : WrongP three2 2 = 0 := by decide
theorem bad_w : WrongP bad2 2 = 0 := by decide
theorem one_w : WrongP (two2.take 1) 2 = 0 := by decide
theorem twice_w : WrongP twice2 2 = 5 := by decide
theorem two_t : Thru f5 two2 := fun s hs => by
  simp [two2] at hs
  rcases hs with rfl | rfl
  · exact cg.of (by decide)
  · exact cg.of (by decide)
theorem three_t : Thru f5 three2 := fun s hs => by
  simp [three2] at hs
  rcases hs with rfl | rfl | rfl
  · exact cg.of (by decide)
  · exact cg.of (by decide)
  · exact cg.of (by decide)
theorem join5 {l : List Pt} {r : Int × Int} (h : JoinR l 2 r) (hw : WrongP l 2 = 0) (hl : (2 : Int) ≤ l.length) (ht : Thru f5 l) : r = (5, 0) := by
  obtain ⟨h1, h2, h3⟩ := join_on h hw hl f5_P ht
  have : r.1 = 5 := fld_eq h2 h1 (by decide)
  rw [← this, ← h3]
theorem join18 {r : Int × Int} (h : JoinR bad2 2 r) : r = (0, 18) := by
  refine join_off h bad_w (by decide) fun ha => ?_
  have h1 := ha ⟨3, 12⟩ (by decide)
  have h2 : cg (lag two2 3) (f5 3) := lag_on (l := two2) f5_P two_t (dis_w two_w) 3
  have h3 : cg 11 12 := h2.symm.trans h1
  have := h3.eq (by decide) (by decide) (by decide) (by decide)
  omega
theorem fits5 : FitsR two2 2 5 := fits_on two_w f5_P two_t (by decide) (cg.of (by decide))
theorem fits6 : ¬ FitsR two2 2 6 := fun h => by
  have h1 := fits_eq two_w (by decide) f5_P two_t h
  have : (6 : Int) = 5 := h1.eq (by decide) (by decide) (by decide) (by decide)
  omega
theorem spl5 : splP 5 (Int.toNat 1) (Int.toNat 3) 9 = [⟨1, 5⟩, ⟨2, 5⟩, ⟨3, 5⟩] := by decide
theorem small_c (W : World) : callC Try.prog 7 #[] (fun (r : Bool) => .bool r) W fun r w' => r = true ∧ Quiet W w' := by
  refine D7 W _ ?_
  unfold F7
  refine nwL fun b9 w1 hb9 q1 g9 _ l9 => ?_
  have h9 : Rd w1 pt 2 (⟨some ⟨b9, 0, none⟩, 2, 2⟩ : Sl) two2 := pt_row hb9 rfl rfl
  refine rn_copy apS h9 pt_len (by decide) pt_one (by decide) (by decide) fun r11 w3 F3 o3 l3 f3 => ?_
  refine o3.push (news := pt ⟨3, 11⟩) apS rfl rfl (by rw [l3]; decide) (by rw [l3]; decide) fun r13 w5 F5 o5 _ st5 => ?_
  have f5' := f3.stp st5
  have o5 : OwnF w5 F5 39 2 r13 (three2.flatMap pt) := o5
  have h9a := h9.keepQ f5'.q
  refine rn_copy apS h9a pt_len (by decide) pt_one (by decide) (by decide) fun r15 w7 F7 o7 l7 f7 => ?_
  refine o7.push (news := pt ⟨3, 12⟩) apS rfl rfl (by rw [l7]; decide) (by rw [l7]; decide) fun r17 w9 F9 o9 _ st9 => ?_
  have f9 := f7.stp st9
  have o9 : OwnF w9 F9 39 2 r17 (bad2.flatMap pt) := o9
  have h9b := h9a.keepQ f9.q
  have o5b := o5.keepQ f9.q
  have Q9 : Quiet W w9 := (q1.tr f5'.q).tr f9.q
  clear o3 o7 f3 f7 st5 st9 h9 h9a hb9 o5 f5'
  refine (split_c w9 5 1 3 9 (by decide)).use ?_
  rintro r18 w10 ⟨_, hs, q10⟩
  obtain ⟨e18, F10, o10, f10⟩ := hs (by decide)
  rw [spl5] at o10
  have Q10 := Q9.tr q10
  refine (join_c w10 _ two2 2 (h9b.keepQ q10) (Nat.le_refl _) (by decide)).use ?_
  rintro r19 w11 ⟨h19, q11⟩
  have h19 := join5 h19 two_w (by decide) two_t
  refine (join_c w11 r13 three2 2 ((o5b.rd pt_len (by decide)).keepQ (q10.tr q11)) o5b.cap (by decide)).use ?_
  rintro r20 w12 ⟨h20, q12⟩
  have h20 := join5 h20 three_w (by decide) three_t
  refine (join_c w12 r17 bad2 2 ((o9.rd pt_len (by decide)).keepQ ((q10.tr q11).tr q12)) o9.cap (by decide)).use ?_
  rintro r21 w13 ⟨h21, q13⟩
  have h21 := join18 h21
  have q913 := ((q10.tr q11).tr q12).tr q13
  have h9c := h9b.keepQ q913
  have o10c := o10.keepQ ((q11.tr q12).tr q13)
  have Q13 := Q9.tr q913
  clear h9b o5b o9 o10 q913 q10 q11 q12 q13 hs
  refine rn_upto apS h9c (Nat.le_refl _) (by decide) (by decide) fun r22 h22 c22 _ => ?_
  refine (join_c w13 r22 (two2.take 1) 2 h22 c22 (by decide)).use ?_
  rintro r23 w15 ⟨h23, q15⟩
  have h23 := join_few h23 one_w (by decide)
  have h9d := h9c.keepQ q15
  have o10d := o10c.keepQ q15
  have Q15 := Q13.tr q15
  refine jn.mk (fun (r : Int) w' => r = 5 ∧ Quiet w15 w') ?_ ?_
  · show tk _ _
    unfold tk
    have qd : Quiet w15 w15.drew := Only.drew _ _
    have h9e := h9d.keepQ qd
    refine h9e.ixx (i := 0) (x := ⟨1, 7⟩) (by decide) rfl fun p hat _ => pt_ld hat (h9e.ixx (i := 0) (x := ⟨1, 7⟩) (by decide) rfl fun p hat _ => pt_ld hat ?_)
    refine nwL fun b32 w17 hb32 q17 g32 _ l32 => ?_
    have h32 : Rd w17 pt 2 (⟨some ⟨b32, 0, none⟩, 2, 2⟩ : Sl) twice2 := pt_row hb32 rfl rfl
    refine (join_c w17 _ twice2 2 h32 (Nat.le_refl _) (by decide)).use ?_
    rintro r33 w18 ⟨h33, q18⟩
    have h33 := join_wrong h33 (by rw [twice_w]; decide)
    rw [twice_w] at h33
    exact ⟨by rw [h33], (qd.tr q17).tr q18⟩
  rintro l34 w19 ⟨rfl, q19⟩
  have h9e := h9d.keepQ q19
  have o10e := o10d.keepQ q19
  have Q19 := Q15.tr q19
  clear h9c h9d o10c o10d Q13 Q15 q19 q15
  refine jn_t (W := w19) (decide_eq_true e18) ?_ fun w22 q22 => ?_
  · refine nwL fun b37 w20 hb37 q20 _ _ _ => ?_
    have h37 : Rd w20 pt 2 (⟨some ⟨b37, 0, none⟩, 3, 3⟩ : Sl) [⟨1, 5⟩, ⟨2, 5⟩, ⟨3, 5⟩] := pt_row hb37 rfl rfl
    refine (same_c w20 r18.1 _ _ _ ((o10e.rd pt_len (by decide)).keepQ q20) h37 (by decide)).use ?_
    rintro r38 w21 ⟨rfl, q21⟩
    exact ⟨decide_eq_true rfl, q20.tr q21⟩
  refine jn_t (W := w22) (by rw [h19, h20, h21, h23]; rfl) ?_ fun w25 q25 => ?_
  · refine rn_upto apS (h9e.keepQ q22) (Nat.le_refl _) (by decide) (by decide) fun r56 h56 _ _ => ?_
    refine (fits_c w22 r56 (two2.take 1) 2 5 h56 (by decide)).use ?_
    rintro r57 w24 ⟨h57, q24⟩
    exact ⟨h57.2 (fits_few one_w (by decide) (by decide)), q24⟩
  refine jn_t (W := w25) rfl ?_ fun w28 q28 => ?_
  · refine rn_upto apS (h9e.keepQ (q22.tr q25)) (Nat.le_refl _) (by decide) (by decide) fun r61 h61 _ _ => ?_
    refine (fits_c w25 r61 (two2.take 1) 2 6 h61 (by decide)).use ?_
    rintro r62 w27 ⟨h62, q27⟩
    exact ⟨h62.2 (fits_few one_w (by decide) (by decide)), q27⟩
  refine jn_t (W := w28) rfl ?_ fun w30 q30 => ?_
  · refine (fits_c w28 _ two2 2 5 (h9e.keepQ ((q22.tr q25).tr q28)) (by decide)).use ?_
    rintro r66 w29 ⟨h66, q29⟩
    exact ⟨h66.2 fits5, q29⟩
  refine jn_t (W := w30) rfl ?_ fun w32 q32 => ⟨rfl, Q19.tr ((((q22.tr q25).tr q28).tr q30).tr q32)⟩
  refine (fits_c w30 _ two2 2 6 (h9e.keepQ (((q22.tr q25).tr q28).tr q30)) (by decide)).use ?_
  rintro r70 w31 ⟨h70, q31⟩
  refine ⟨?_, q31⟩
  cases r70
  · rfl
  · exact absurd (h70.1 rfl) fits6
end Go.Proofs.Ytdcbmadmcmjopaa
