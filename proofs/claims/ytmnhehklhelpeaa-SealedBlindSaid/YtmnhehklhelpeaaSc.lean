import Derived.Test.YtmnhehklhelpeaaSb
namespace Go.Proofs.Ytmnhehklhelpeaa
open Go.Dec Go.RowKit
set_option maxHeartbeats 1600000
set_option maxRecDepth 10000

/-- a row that is kept beside what is written -/
def Kp (w : World) (F : Nat → Prop) (r : Sl) (L : List Pt) : Prop := Rd w pt 2 r L ∧ r.len ≤ r.cap ∧ ∀ ad, r.a = some ad → ad.block < w.heap.size ∧ ¬ F ad.block
theorem Kp.stp {w w' : World} {F F' : Nat → Prop} {r : Sl} {L : List Pt} (h : Kp w F r L) (s : Stp F w F' w') : Kp w' F' r L := by
  refine ⟨h.1.keep s.only fun ad ha _ => (h.2.2 ad ha).2, h.2.1, fun ad ha => ?_⟩
  have h1 := h.2.2 ad ha
  have := s.only.size
  refine ⟨by omega, fun e => ?_⟩
  rcases s.sub _ e with e | e
  · exact h1.2 e
  · omega
theorem Kp.q {w w' : World} {F : Nat → Prop} {r : Sl} {L : List Pt} (h : Kp w F r L) (q : Quiet w w') : Kp w' F r L := h.stp (Stp.quiet q)
theorem own_kp {w w' : World} {F P : Nat → Prop} {r : Sl} {L : List Pt} (o : OwnF w' P 56 2 r (L.flatMap pt)) (h : ∀ b, P b → (w.heap.size ≤ b ∧ b < w'.heap.size) ∧ ¬ F b) : Kp w' F r L :=
  ⟨o.rd pt_len (by decide), o.cap, fun ad ha => by
    have := h ad.block (o.blk _ (by simp [Sl.blk, ha]))
    exact ⟨this.1.2, this.2⟩⟩
/-- a sealing that goes through -/
theorem SealR.ok {w w' : World} {F' : Nat → Prop} {l l' : List Bo} {t : ByteArray} {k n seed : Int} {r : Int × Sl × Int} (h : SealR w F' l l' t k n seed r w') (hk : okN k n) (ht : t.size ≤ 65536) :
    r.1 = l.length ∧ r.2.2 = 0 ∧ l' = l ++ [⟨t, k, false⟩] ∧ Kp w' F' r.2.1 (splP l.length k.toNat n.toNat seed) := by
  rcases h with ⟨h1, _⟩ | ⟨_, h1, _⟩ | ⟨_, _, h1, h2, h3, P, h4, h5⟩
  · exact absurd hk h1
  · omega
  · exact ⟨h1, h2, h3, own_kp h4 h5⟩
theorem open_sub {l : List Bo} {i : Int} {m : List Pt} {r : ByteArray × Int} {b : Bo} {v d : Int} {n : Nat} (h : OpenR l i m r) (i0 : 0 ≤ i) (hb : l[i.toNat]? = some b) (hk : 1 ≤ b.need ∧ b.need ≤ n) (hn : n ≤ 20) (hv : Fld v) (hm : ∀ p ∈ m, p ∈ splP v b.need.toNat n d) (hmn : m.Nodup) :
    (b.need ≤ m.length → r = if v = i ∧ b.gone = false then (b.text, 0) else (e0, 13)) ∧ ((m.length : Int) < b.need → r = (e0, 20)) := by
  have hw : WrongP m b.need = 0 := wrong_ok (by omega) (fun s hs => spl_in hn s (hm s hs)) (sub_nd hm hmn)
  have hP := splF_P v (k := b.need.toNat) d (by omega)
  have hT : Thru (splF v b.need.toNat d) m := fun s hs => spl_thru _ _ _ _ s (hm s hs)
  have hil := (List.getElem?_eq_some_iff.1 hb).1
  rcases h with ⟨h1, _⟩ | ⟨c, j, _, h2, h3, h4⟩
  · omega
  rw [hb] at h2
  injection h2 with h2
  subst h2
  refine ⟨fun hl => ?_, fun hl => ?_⟩
  · obtain ⟨a1, a2, a3⟩ := join_on h3 hw hl hP hT
    rw [splF_0] at a2
    have a4 : j.1 = v := fld_eq a2 a1 hv
    rw [a4] at h4
    rcases h4 with ⟨c1, _⟩ | ⟨_, ⟨c2, rfl⟩ | ⟨c2, c3, rfl⟩⟩
    · exact absurd a3 c1
    · rw [if_neg]
      rintro ⟨d1, d2⟩
      rcases c2 with c2 | c2
      · exact c2 d1
      · rw [d2] at c2
        cases c2
    · rw [if_pos ⟨c2, c3⟩]
  · have := join_few h3 hw hl
    subst this
    rcases h4 with ⟨_, rfl⟩ | ⟨c1, _⟩
    · rfl
    · simp at c1
theorem beqS_e {a b : ByteArray} (h : a = b) : beqS a b = true := by
  subst h
  simp [beqS]
theorem small_s (W : World) : callC Try.prog 7 #[] (fun (r : Bool) => .bool r) W fun r w' => r = true ∧ Quiet W w' := by
  refine D7 W _ ?_
  unfold F7
  refine (new_s W).use ?_
  rintro _ w1 ⟨sb, F, rfl, hS, q1, f1⟩
  refine ⟨fun g => by simp at g, fun _ => ?_⟩
  refine (seal_c w1 F sb [] (ByteArray.mk #[97]) 2 3 7 hS (by decide) (by decide)).use ?_
  rintro r11 w2 ⟨F2, l2, hS2, s2, hr⟩
  obtain ⟨e1, e2, rfl, hK⟩ := hr.ok ⟨by decide, by decide⟩ (by decide)
  have ms : splP (([] : List Bo).length) (Int.toNat 2) (Int.toNat 3) 7 = [shAt 0 2 7 0, shAt 0 2 7 1, shAt 0 2 7 2] := rfl
  have hd0 : [shAt 0 2 7 0, shAt 0 2 7 1, shAt 0 2 7 2].Nodup := spl_nd 0 2 3 7
  rw [ms] at hK
  have hKl := hK.1.len
  have e1 : r11.1 = 0 := e1
  have Q2 : Quiet W w2 := q1.new s2.only f1
  refine ⟨fun g => ?_, fun _ => ?_⟩
  · rw [e1, e2, hKl] at g
    simp at g
  have hS2' : IsS w2 F2 sb [⟨ByteArray.mk #[97], 2, false⟩] := hS2
  refine jn.mk (fun (r : ByteArray × Int) w' => r = (ByteArray.mk #[97], 0) ∧ Quiet w2 w') ?_ ?_
  · show tk _ _
    unfold tk
    have qd : Quiet w2 w2.drew := Only.drew _ _
    have hK' := hK.q qd
    have hS' := hS2'.keepQ qd
    generalize w2.drew = w3 at *
    refine hK'.1.ixx (i := 0) (x := shAt 0 2 7 0) (by decide) rfl fun p hat _ => pt_ld hat (hK'.1.ixx (i := 2) (x := shAt 0 2 7 2) (by decide) rfl fun p hat _ => pt_ld hat ?_)
    refine nwL fun b25 w4 hb25 q25 _ _ _ => ?_
    have h25 : Rd w4 pt 2 (⟨some ⟨b25, 0, none⟩, 2, 2⟩ : Sl) [shAt 0 2 7 0, shAt 0 2 7 2] := pt_row hb25 rfl rfl
    refine (open_s w4 F2 sb _ 0 _ _ (hS'.keepQ q25) h25 (Nat.le_refl _) (by decide)).use ?_
    rintro r26 w5 ⟨ho, q5⟩
    have := (open_sub (v := 0) (d := 7) (n := 3) ho (by decide) rfl (by decide) (by decide) fld0 (fun p hp => by
      show p ∈ [shAt 0 2 7 0, shAt 0 2 7 1, shAt 0 2 7 2]
      simp at hp ⊢
      rcases hp with e | e
      · exact .inl e
      · exact .inr (.inr e)) (hd0.sublist (by
        refine List.Sublist.cons_cons _ (List.Sublist.cons _ (List.Sublist.refl _))))).1 (by decide)
    exact ⟨this, (qd.tr q25).tr q5⟩
  rintro l27 w6 ⟨e27, q6⟩
  refine rn_part apS (hK.q q6).1 hK.2.1 (by decide) (by decide) (by decide) fun r28 h28 c28 _ => ?_
  refine (open_s w6 F2 sb _ 0 _ _ (hS2'.keepQ q6) h28 c28 (by decide)).use ?_
  rintro r29 w8 ⟨ho29, q8⟩
  have e29 := (open_sub (v := 0) (d := 7) (n := 3) ho29 (by decide) rfl (by decide) (by decide) fld0 (fun p hp => by
      show p ∈ [shAt 0 2 7 0, shAt 0 2 7 1, shAt 0 2 7 2]
      have hp : p ∈ [shAt 0 2 7 1] := hp
      simp at hp ⊢
      exact .inr (.inl hp)) (by
        show [shAt 0 2 7 1].Nodup
        simp)).2 (by decide)
  refine (burn_s w8 F2 sb _ 0 (hS2'.keepQ (q6.tr q8)) (by decide)).use ?_
  rintro r30 w9 ⟨e30, F9, hS9, s9⟩
  have e30 : r30 = 0 := e30
  have hS9 : IsS w9 F9 sb [⟨ByteArray.mk #[97], 2, true⟩] := hS9
  have hK9 := (hK.q (q6.tr q8)).stp s9
  refine (open_s w9 F9 sb _ 0 _ _ hS9 hK9.1 hK9.2.1 (by decide)).use ?_
  rintro r31 w10 ⟨ho31, q10⟩
  have e31 := (open_sub (v := 0) (d := 7) (n := 3) ho31 (by decide) rfl (by decide) (by decide) fld0 (fun p hp => hp) hd0).1 (by decide)
  have Q10 : Quiet W w10 := ((((Q2.tr q6).tr q8)).new s9.only fun x hx => by
    rcases s2.sub x hx with e | e
    · exact f1 x e
    · have := q1.size
      omega).tr q10
  refine jn_t (W := w10) ?_ ?_ fun w12 q12 => ⟨rfl, Q10.tr q12⟩
  · rw [e27, e29, e30, e31]
    simp [beqS_e]
  · refine (len_s w10 F9 sb _ (hS9.keepQ q10)).use ?_
    rintro r42 w11 ⟨rfl, rfl⟩
    exact ⟨rfl, Only.refl _ _⟩
end Go.Proofs.Ytmnhehklhelpeaa
