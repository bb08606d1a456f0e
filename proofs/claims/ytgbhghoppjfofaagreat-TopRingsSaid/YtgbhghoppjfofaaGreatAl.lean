import Derived.Test.YtgbhghoppjfofaaGreatRc
import Derived.Test.YtgbhghoppjfofaaGreatLk
import Derived.Test.YtgbhghoppjfofaaGreatEk
import Derived.Test.YtgbhghoppjfofaaGreatTg2
namespace Go.Proofs.YtgbhghoppjfofaaGreat
open Go.Dec Go.RowKit Go.Top
set_option maxHeartbeats 1000000
set_option maxRecDepth 10000

/-! ### the little story -/
def apA : Ap := ⟨ByteArray.mk #[97], 0, 0, 0, false, 0, false, false, 40, 1, 0, 0, [], 0, 0, 0, 0, false, 2, 0, 1, 0⟩
theorem word_a : wordP (ByteArray.mk #[97]) = true := by decide
theorem check_A : CheckA apA = 0 := by
  have h1 : RightA apA := by
    refine ⟨?_, ?_, ⟨word_a, by decide, by decide⟩, by decide⟩
    · unfold nums9 numOK apA
      decide
    · unfold pairs6 apA
      decide
  have h2 : RangeA apA := by
    unfold RangeA TogA apA
    decide
  have h3 : apA.types.Nodup := List.nodup_nil
  unfold CheckA
  rw [if_neg (fun e => e h1), if_neg (fun e => e h2), if_neg (fun e => e h3)]
theorem nil_rdS (w : World) : Rd w cb 1 Sl.nil [] := ⟨rfl, fun i x hx => by simp at hx⟩
theorem nil_rdW (w : World) : Rd w wt 4 Sl.nil [] := ⟨rfl, fun i x hx => by simp at hx⟩
theorem gv_A : gv 2 1 0 0 2 = 4 := by decide
def wA : Wt := ⟨3, 0, 3, 2⟩
theorem put_A {e : Int} {out : List Wt} (h : PutR (CheckA apA = 0) apA.rate apA.window apA.down 0 [] wA e out) : e = 0 ∧ out = [wA] := by
  rcases h with ⟨_, _, _, s, hp, _, ⟨_, h1, h2⟩ | ⟨h1, _, _⟩⟩ | ⟨h1, _, _⟩
  · exact ⟨h1, h2⟩
  · have : s = [jb wA] := by
      have : jobs wA.net ([] ++ [wA]) = [jb wA] := by decide
      rw [this] at hp
      exact List.perm_singleton.1 hp
    subst this
    exact absurd (show PO (gv apA.rate apA.window apA.down 0) 0 [jb wA] from ⟨by show (0 : Int) + 3 ≤ gv 2 1 0 0 2; rw [gv_A]; decide, trivial⟩) h1
  · exact absurd ⟨show rightP wA by decide, show ¬ hasP [] wA.ev wA.net by decide, check_A⟩ h1
theorem step_A {x y : Wt} {done : List Int} {left : List Wt} {r : Int} (hx : x.net = 0) (h : StepR r 0 [x] done left) (hs : srv [0] r [x] [] = (r - min r x.left, [y], if y.left = 0 then [x.ev] else [])) : done = (if y.left = 0 then [x.ev] else []) ∧ left = [y].filter fun y => decide (y.left ≠ 0) := by
  obtain ⟨o, h1, _, h2, h3⟩ := h
  have : idx 0 0 [x] = [0] := by simp [idx, hx]
  rw [this] at h1
  have := List.perm_singleton.1 h1
  subst this
  rw [hs] at h2 h3
  exact ⟨h2, h3⟩
theorem cutA_r : ∀ (k : Nat) (b : Br), ([⟨0, 1, true⟩, ⟨1, 0, true⟩] : List Br)[k]? = some b → b.own = true := fun k b h => by
  have := List.mem_of_getElem? h
  simp at this
  rcases this with rfl | rfl <;> rfl
theorem cut_A : (ownb [⟨0, 1, true⟩, ⟨1, 0, true⟩] (forg [⟨0, 1, true⟩, ⟨1, 0, true⟩] 2) 2).2 = [1] := by
  have hf : forg [⟨0, 1, true⟩, ⟨1, 0, true⟩] 2 = [] := by simp [forg]
  rw [hf]
  have h0 : ¬ Rch [⟨0, 1, true⟩, ⟨1, 0, true⟩] [] 1 0 := fun h => by
    have := h.closed (S := fun x => x = 1) rfl fun x y _ ⟨i, hi, _⟩ => by simp at hi
    cases this
  have e1 : ownb [⟨0, 1, true⟩, ⟨1, 0, true⟩] [] 1 = ([0], []) := by simp [ownb, h0]
  have h1 : Rch [⟨0, 1, true⟩, ⟨1, 0, true⟩] [0] 0 1 := .one ⟨0, by simp, ⟨0, 1, true⟩, rfl, rfl, rfl⟩
  rw [ownb]
  simp [e1, h1]
theorem alive_c (w : World) : callC Tryz.prog 5 #[] (fun (r : Bool) => .bool r) w fun r w' => r = true ∧ Quiet w w' := by
  refine D5 w _ ?_
  unfold F5
  refine pf_box (x := pfOf apA Sl.nil) fun b9 w2 hp q2 _ _ => ?_
  refine pf_ld hp.at ((put_c w2 apA Sl.nil Sl.nil [] wA 0 (nil_rdS _) (Nat.le_refl _) (nil_rdW _) (Nat.le_refl _) QW.nil (by simp) (by decide) (by decide)).use ?_)
  rintro ⟨r33, e33⟩ w3 ⟨out, F3, hput, o3, f3⟩
  obtain ⟨he33, rfl⟩ := put_A hput
  dsimp only at he33 o3 ⊢
  subst he33
  have hq1 : QW [wA] := ⟨fun y hy => (by simp at hy; subst hy; decide), by simp⟩
  refine pf_ld (hp.keepQ f3.q).at ((step_c w3 apA Sl.nil r33 [wA] 0 true (nil_rdS _) (Nat.le_refl _) (o3.rd wt_len (by decide)) o3.cap hq1 (by simp)).use ?_)
  rintro ⟨d4, l4⟩ w4 ⟨done1, left1, F4, G4, od4, ol4, fd4, fl4, hs4⟩
  obtain ⟨rfl, rfl⟩ : done1 = [] ∧ left1 = [{ wA with left := 1 }] := by
    rcases hs4 with ⟨_, _, hs4⟩ | ⟨hn, _⟩
    · exact step_A (y := { wA with left := 1 }) rfl hs4 rfl
    · exact absurd ⟨rfl, check_A⟩ hn
  dsimp only at od4 ol4 ⊢
  have hq2 : QW [{ wA with left := 1 }] := ⟨fun y hy => (by simp at hy; subst hy; decide), by simp⟩
  refine pf_ld (hp.keepQ (f3.q.tr fl4.q)).at ((step_c w4 apA Sl.nil l4 [{ wA with left := 1 }] 0 true (nil_rdS _) (Nat.le_refl _) (ol4.rd wt_len (by decide)) ol4.cap hq2 (by simp)).use ?_)
  rintro ⟨d5, l5⟩ w5 ⟨done2, left2, F5, G5, od5, ol5, fd5, fl5, hs5⟩
  obtain ⟨rfl, rfl⟩ : done2 = [3] ∧ left2 = [] := by
    rcases hs5 with ⟨_, _, hs5⟩ | ⟨hn, _⟩
    · exact step_A (y := { wA with left := 0 }) rfl hs5 rfl
    · exact absurd ⟨rfl, check_A⟩ hn
  dsimp only at od5 ol5 ⊢
  have hd4 : d4.len = 0 := (od4.rd ci1 (by decide)).len
  have hd5 : d5.len = 1 := (od5.rd ci1 (by decide)).len
  have hl5 : l5.len = 0 := (ol5.rd wt_len (by decide)).len
  have q5 : Quiet w w5 := ((q2.tr f3.q).tr fl4.q).tr fl5.q
  refine (news_c w5 2).use ?_
  rintro ⟨r80, e80⟩ w6 ⟨hy6, _, q6⟩
  obtain ⟨b6, F6, e6, s6, f6⟩ := hy6 (by unfold win; omega)
  cases e6
  refine (newr_c w6 2).use ?_
  rintro ⟨r81, e81⟩ w7 ⟨hy7, _, q7⟩
  obtain ⟨b7, F7, e7, s7, f7⟩ := hy7 (by unfold win; omega)
  cases e7
  have O7 : Objs w5 w7 (two F6 F7) := ((Objs.start w5).none2.n0 f6).n1 f7
  refine nwL fun b8 w8 hb8 q8 _ _ _ => ?_
  have hrow : Rd w8 br 3 (⟨some ⟨b8, 0, none⟩, 2, 2⟩ : Sl) [⟨0, 1, true⟩, ⟨1, 0, true⟩] := br_row hb8 rfl (by simp [br])
  refine (cut_c w8 _ _ 2 hrow ⟨by decide, by simp, fun b hb => (by simp at hb; rcases hb with rfl | rfl <;> decide)⟩).use ?_
  rintro ⟨r83, r83b, e83⟩ w9 ⟨hcut, q9⟩
  dsimp only at hcut ⊢
  obtain ⟨rfl, hl83⟩ : e83 = 0 ∧ r83.len = 1 := by
    rcases hcut with ⟨_, k, b, hb, ho, _⟩ | ⟨h0, _, F, oF, _⟩
    · rw [cutA_r k b hb] at ho
      cases ho
    · refine ⟨h0, ?_⟩
      have := (oF.rd ci1 (by decide)).len
      rw [casts_len] at this
      rw [show ([⟨0, 1, true⟩, ⟨1, 0, true⟩] : List Br).length = 2 from rfl, cut_A] at this
      exact this
  rw [hd4, hd5, hl5, hl83]
  refine ⟨fun e => (by simp at e), fun _ => ?_⟩
  have O9 := O7.quiet (q8.tr q9)
  have s9 := (s6.keepQ f7.q).keepQ (q8.tr q9)
  have r9 := s7.keepQ (q8.tr q9)
  have hok0 : (⟨2, 0, 0⟩ : SS).ok := ⟨by decide, by decide, by decide, by decide, by decide⟩
  refine (send_c w9 F6 b6 ⟨2, 0, 0⟩ s9 hok0).use ?_
  rintro r103 w10 ⟨rfl, s10, st10⟩
  have O10 := O9.s0 st10
  have r10 := r9.keep st10.only O9.d10
  refine (take_c w10 F7 b7 (RS.new 2) 0 r10 (RS.new_ok (by unfold win; omega)) (by decide)).use ?_
  rintro ⟨r104, n104⟩ w11 ⟨hn104, r11, st11, G, o11, g11⟩
  have e104 : ((RS.new 2).take 0).R = 1 := by decide
  have eg104 : (RS.new 2).got 0 = [0] := by decide
  dsimp only at hn104 ⊢
  rw [e104] at hn104
  subst hn104
  rw [eg104] at o11
  have hl104 : r104.len = 1 := (o11.rd ci1 (by decide)).len
  have O11 := O10.s1 st11
  have s11 := s10.keep st11.only O10.d01
  refine nwL fun b12 w12 hb12 q12 _ _ _ => ?_
  have hcp : Rd w12 cp 5 (⟨some ⟨b12, 0, none⟩, 1, 1⟩ : Sl) [⟨0, 0, 0, -1, -1⟩] := by
    refine ⟨rfl, fun i u hu => ⟨_, rfl, fun j v hv => ?_⟩⟩
    rw [mk_add, mk_add, Blk.cell hb12]
    have := flat_at cp5 hu hv
    simpa [cp] using this
  refine (match_c w12 _ [⟨0, 0, 0, -1, -1⟩] ⟨1, 0, 1, -1, -1⟩ 3 hcp (by simp) (fun x hx => by simp at hx; subst hx; unfold i64; decide) (by unfold i64; decide) (by decide)).use ?_
  rintro r106 w13 ⟨rfl, q13⟩
  have q11 : Quiet w5 w11 := Quiet.ofBelow O11.bl
  have q213 := q12.tr q13
  have qd : Quiet w5 w13 := q11.tr q213
  have s13 := s11.keepQ q213
  refine ((od5.keepQ qd).rd ci1 (by decide)).ixx (Int.le_refl _) (x := 3) rfl fun p hat _ => hat.ld0 rfl ?_
  rw [hl104]
  have hok1 : (⟨2, 0, 0⟩ : SS).send.ok := ⟨by decide, by decide, by decide, by decide, by decide⟩
  refine jn.mk (fun c w' => c = true ∧ IsS w' F6 b6 ((⟨2, 0, 0⟩ : SS).send.ack 1) ∧ Quiet w5 w') ⟨fun _ => (ack_c w13 F6 b6 _ 1 s13 hok1).use ?_, fun e => (by simp at e)⟩ ?_
  · rintro r w14 ⟨rfl, s14, st14⟩
    have O13 := O11.quiet q213
    exact ⟨by decide, s14, Quiet.ofBelow (O13.s0 st14).bl⟩
  rintro c w15 ⟨rfl, s15, q15⟩
  refine jn.mk (fun c w' => c = true ∧ Quiet w5 w') ⟨fun _ => (left_c w15 F6 b6 _ s15 (hok1.ack 1)).use ?_, fun e => (by cases e)⟩ ?_
  · rintro r w16 ⟨rfl, q16⟩
    exact ⟨by decide, q15.tr q16⟩
  rintro c w17 ⟨rfl, q17⟩
  exact ⟨by decide, q5.tr q17⟩
end Go.Proofs.YtgbhghoppjfofaaGreat
