import Derived.Test.YtcnnnhligkpamaaSc
namespace Go.Proofs.Ytcnnnhligkpamaa
open Go.Dec Go.RowKit
set_option maxHeartbeats 400000

def pk (p : Int × Int) : Value := .agg #[.int .i64 p.1, .int .i64 p.2]
theorem u52 : Try.prog.underlying 52 = some (.map 54 3) := by kernel_rfl
theorem z3 : (Try.prog.info? 3).bind (·.zero) = some (Value.int .i64 0) := by kernel_rfl
theorem u54 : Try.prog.underlying 54 = some (.struct (Try.prog.fieldsOf 54)) := by kernel_rfl
theorem s54 : Try.prog.stoodInHeld 54 = false := by kernel_rfl
theorem eq54 (a b c d : Int) : fieldsEq Try.prog #[.int .i64 a, .int .i64 b] #[.int .i64 c, .int .i64 d] (Try.prog.fieldsOf 54).toList = some (decide (a = c) && (decide (b = d) && true)) := by kernel_rfl
theorem k54 : KeyOK Try.prog 54 (.struct (Try.prog.fieldsOf 54)) pk :=
  keyOK_st (c := fun p : Int × Int => #[.int .i64 p.1, .int .i64 p.2]) u54 s54 (fun x y => ⟨_, eq54 _ _ _ _, by
    obtain ⟨a, b⟩ := x
    obtain ⟨c, d⟩ := y
    simp⟩) (fun x => by simp [Instr.sameBits]) fun x y e => by
    obtain ⟨a, b⟩ := x
    obtain ⟨c, d⟩ := y
    simp at e
    rw [e.1, e.2]

/-- the stay k is an open one of a place -/
def OpenAt (out : List Sy) (p : Int × Int) (k : Int) : Prop := 0 ≤ k ∧ ∃ s, out[k.toNat]? = some s ∧ s.to = -1 ∧ s.acc = p.1 ∧ s.grp = p.2
theorem opn_At {out : List Sy} {a g : Int} (h : opn out a g) : ∃ k, OpenAt out (a, g) k := by
  obtain ⟨s, hs, h1, h2, h3⟩ := h
  obtain ⟨k, hk⟩ := List.getElem?_of_mem hs
  exact ⟨(k : Int), by omega, s, by rw [show ((k : Int)).toNat = k by omega]; exact hk, h1, h2, h3⟩
theorem At_opn {out : List Sy} {a g k : Int} (h : OpenAt out (a, g) k) : opn out a g := by
  obtain ⟨_, s, hs, h1, h2, h3⟩ := h
  exact ⟨s, List.mem_of_getElem? hs, h1, h2, h3⟩
def MOK (out : List Sy) (m : Int × Int → Option Int) : Prop := ∀ p k, m p = some k ↔ OpenAt out p k
theorem map_shut_id {n : Int} {e : Ev} {out : List Sy} (h : ∀ s ∈ out, ¬ (s.to = -1 ∧ En e s.acc s.grp)) : out.map (shut n e) = out :=
  (List.map_congr_left fun s hs => if_neg (h s hs)).trans (List.map_id _)
theorem step_join {out : List Sy} {e : Ev} {n : Nat} {m : Int × Int → Option Int} (hm : MOK out m) (h5 : e.kind = 5) (hn : m (e.who, e.group) = none) :
    step n out e = out ++ [⟨e.who, e.group, n, -1⟩] ∧ MOK (out ++ [⟨e.who, e.group, n, -1⟩]) (mset m (e.who, e.group) (out.length : Int)) := by
  have ho : ¬ opn out e.who e.group := fun h => by
    obtain ⟨k, hk⟩ := opn_At h
    rw [(hm _ _).2 hk] at hn
    cases hn
  refine ⟨?_, fun p k => ?_⟩
  · unfold step
    rw [if_pos ⟨h5, ho⟩, map_shut_id fun s _ hc => En_kind hc.2 h5]
  · by_cases hp : p = (e.who, e.group)
    · subst hp
      rw [mset_same]
      constructor
      · intro h
        injection h with h
        subst h
        exact ⟨by omega, ⟨e.who, e.group, n, -1⟩, by simp, rfl, rfl, rfl⟩
      · rintro ⟨h0, s, hs, h1, h2, h3⟩
        by_cases hk : k.toNat < out.length
        · rw [List.getElem?_append_left hk] at hs
          exact absurd (At_opn ⟨h0, s, hs, h1, h2, h3⟩) ho
        · rw [List.getElem?_append_right (by omega)] at hs
          have := (List.getElem?_eq_some_iff.1 hs).1
          simp at this
          congr 1
          omega
    · rw [mset_ne _ _ hp, hm]
      constructor
      · rintro ⟨h0, s, hs, h⟩
        have := (List.getElem?_eq_some_iff.1 hs).1
        exact ⟨h0, s, by rw [List.getElem?_append_left this]; exact hs, h⟩
      · rintro ⟨h0, s, hs, h1, h2, h3⟩
        by_cases hk : k.toNat < out.length
        · rw [List.getElem?_append_left hk] at hs
          exact ⟨h0, s, hs, h1, h2, h3⟩
        · rw [List.getElem?_append_right (by omega)] at hs
          have hl := (List.getElem?_eq_some_iff.1 hs).1
          simp at hl
          rw [hl] at hs
          simp at hs
          subst hs
          exact absurd (Prod.ext h2.symm h3.symm) hp
theorem En_det {e : Ev} {a g b k : Int} (h : En e a g) (h' : En e b k) : b = a ∧ k = g := by
  unfold En at h h'
  omega
theorem step_end {out : List Sy} {e : Ev} {n : Nat} {m : Int × Int → Option Int} {a g k : Int} (hm : MOK out m) (he : En e a g) (hk : m (a, g) = some k) :
    ∃ s, out[k.toNat]? = some s ∧ 0 ≤ k ∧ step n out e = out.set k.toNat { s with to := n } ∧ MOK (out.set k.toNat { s with to := n }) (mdel m (a, g)) := by
  obtain ⟨h0, s, hs, h1, h2, h3⟩ := (hm _ _).1 hk
  have hl := (List.getElem?_eq_some_iff.1 hs).1
  have uniq : ∀ j t, out[j]? = some t → t.to = -1 → t.acc = a → t.grp = g → j = k.toNat := fun j t ht g1 g2 g3 => by
    have : m (a, g) = some (j : Int) := (hm _ _).2 ⟨by omega, t, by rw [show ((j : Int)).toNat = j by omega]; exact ht, g1, g2, g3⟩
    rw [hk] at this
    injection this with this
    omega
  refine ⟨s, hs, h0, ?_, fun p j => ?_⟩
  · unfold step
    rw [if_neg (fun c => En_kind he c.1), List.append_nil]
    apply List.ext_getElem?
    intro j
    rw [List.getElem?_map]
    by_cases hj : k.toNat = j
    · subst hj
      rw [hs, List.getElem?_set_self hl, Option.map_some]
      unfold shut
      rw [if_pos ⟨h1, by rw [h2, h3]; exact he⟩]
    · rw [List.getElem?_set_ne hj]
      cases ht : out[j]? with
      | none => rfl
      | some t =>
        rw [Option.map_some]
        unfold shut
        rw [if_neg]
        rintro ⟨g1, g2⟩
        obtain ⟨rfl, rfl⟩ := En_det he g2
        exact hj (uniq j t ht g1 rfl rfl).symm
  · by_cases hp : p = (a, g)
    · subst hp
      rw [mdel_same]
      refine ⟨fun h => (by cases h), fun ⟨g0, t, ht, g1, g2, g3⟩ => ?_⟩
      by_cases hj : k.toNat = j.toNat
      · rw [hj, List.getElem?_set_self (hj ▸ hl)] at ht
        injection ht with ht
        subst ht
        have : (n : Int) = -1 := g1
        omega
      · rw [List.getElem?_set_ne hj] at ht
        exact absurd (uniq _ t ht g1 g2 g3).symm hj
    · rw [mdel_ne _ hp, hm]
      have hne : ∀ t, out[j.toNat]? = some t → t.acc = p.1 → t.grp = p.2 → k.toNat ≠ j.toNat := fun t ht e1 e2 hj => by
        rw [← hj, hs] at ht
        injection ht with ht
        subst ht
        exact hp (Prod.ext (e1.symm.trans h2) (e2.symm.trans h3))
      constructor
      · rintro ⟨g0, t, ht, g1, g2, g3⟩
        exact ⟨g0, t, by rw [List.getElem?_set_ne (hne t ht g2 g3)]; exact ht, g1, g2, g3⟩
      · rintro ⟨g0, t, ht, g1, g2, g3⟩
        by_cases hj : k.toNat = j.toNat
        · rw [hj, List.getElem?_set_self (hj ▸ hl)] at ht
          injection ht with ht
          subst ht
          have : (n : Int) = -1 := g1
          omega
        · rw [List.getElem?_set_ne hj] at ht
          exact ⟨g0, t, ht, g1, g2, g3⟩
theorem step_else {out : List Sy} {e : Ev} {n : Nat} {m : Int × Int → Option Int} (hm : MOK out m) (h5 : e.kind = 5 → m (e.who, e.group) ≠ none) (he : ∀ a g, En e a g → m (a, g) = none) : step n out e = out := by
  unfold step
  rw [map_shut_id, if_neg, List.append_nil]
  · rintro ⟨h, ho⟩
    cases hk : m (e.who, e.group) with
    | none => exact h5 h hk
    | some k => exact ho (At_opn ((hm _ _).1 hk))
  · rintro s hs ⟨h1, h2⟩
    obtain ⟨k, hk⟩ := opn_At ⟨s, hs, h1, rfl, rfl⟩
    have := he _ _ h2
    rw [(hm _ _).2 hk] at this
    cases this

theorem stays_c (w : World) (s : Sl) (l : List Ev) (h : Rd w ev 12 s l) (hl : l.length ≤ 1000000) :
    callC Try.prog 17 #[s.v] Sl.v w fun r w' => ∃ F, OwnF w' F 43 4 r ((S l).flatMap sy) ∧ Fresh w w' F := by
  have hsl := h.len
  refine D17 _ w _ ?_
  unfold F17
  refine rn_makeMap (α := Int × Int) (β := Int) (ek := pk) (ev := Value.int .i64) (fun _ => rfl) fun mb w1 hm1 q1 g1 l1 _ => ?_
  have hO1 : Objs w w1 (two (fun _ => False) (fun b => b = mb)) := ((Objs.start w).none2).n1 ⟨q1, fun b hb => by subst hb; exact ⟨g1, l1⟩⟩
  refine ⟨fun (c : Sl × Int) w' => 0 ≤ c.2 ∧ c.2 ≤ l.length ∧ ∃ F m, OwnF w' F 43 4 c.1 ((S (l.take c.2.toNat)).flatMap sy) ∧ Mp pk (Value.int .i64) w' mb m ∧ MOK (S (l.take c.2.toNat)) m ∧ Objs w w' (two F (fun b => b = mb)), fun c _ => (l.length - c.2).toNat,
    ⟨by simp, by simp, _, _, by simpa [S, runS] using OwnF.nil _ _ _ _, hm1, fun p k => ⟨fun e => (by cases e), fun ⟨_, s, hs, _⟩ => by simp [S, runS] at hs⟩, hO1⟩, ?_⟩
  rintro ⟨out, i⟩ w2 ⟨i0, i1, F, m, ho, hmp, hmok, hO⟩
  dsimp only at i0 i1 ho hmok ⊢
  have q02 : Quiet w w2 := Quiet.ofBelow hO.bl
  refine ⟨fun hi => ?_, fun hi => ?_⟩
  · have hlt : i < l.length := by rw [hsl] at hi; exact of_decide_eq_true hi
    obtain ⟨e, he⟩ := getq i0 hlt
    have hsn := S_snoc (l.take i.toNat) e
    rw [List.length_take, Nat.min_eq_left (by omega)] at hsn
    have hSl := S_len (l.take i.toNat)
    rw [List.length_take] at hSl
    have hol := (ho.rd sy_len (by decide)).len
    refine jn.mk (fun r w' => ∃ F m, OwnF w' F 43 4 r ((S (l.take (i.toNat + 1))).flatMap sy) ∧ Mp pk (Value.int .i64) w' mb m ∧ MOK (S (l.take (i.toNat + 1))) m ∧ Objs w w' (two F (fun b => b = mb))) ?_ ?_
    · rw [take_next he, hsn]
      generalize hout : S (l.take i.toNat) = L at *
      refine (h.keepQ q02).ixx i0 he fun p hat _ => ev_ld hat (ev_box fun b19 w5 hb19 q5 g5 l5 => ?_)
      refine hb19.at.ld (j := 7) rfl (hb19.at.ld (j := 4) rfl (box_all rfl fun b23 w7 hb23 q7 g7 l7 => ?_))
      have s5 := q5.size
      have s7 := q7.size
      have hE7 := hb19.keepQ q7
      refine jn.mk (fun _ w' => Quiet w2 w' ∧ IsEv w' b19 e ∧ Blk w' b23 54 #[.int .i64 (if e.kind = 6 then e.author else e.who), .int .i64 e.group]) ?_ ?_
      · have B := hE7.at
        refine B.ld (j := 3) rfl ⟨fun h6 => B.ld (j := 0) rfl ?_, fun h6 => ?_⟩
        · refine hb23.st (i := 0) (by simp) fun w9 hb9 on9 _ => ⟨Quiet.new (q5.tr q7) on9 fun x hx => by omega, Blk.keep hE7 on9 (by omega), ?_⟩
          rw [if_pos (of_decide_eq_true h6)]
          exact hb9
        · refine ⟨q5.tr q7, hE7, ?_⟩
          rw [if_neg (of_decide_eq_false h6)]
          exact hb23
      rintro _ w8 ⟨q28, hE8, hb8⟩
      obtain ⟨a, ha⟩ : ∃ a, a = if e.kind = 6 then e.author else e.who := ⟨_, rfl⟩
      rw [← ha] at hb8
      have hO8 := hO.quiet q28
      have hm8 := hmp.keepQ q28
      have ho8 := ho.keepQ q28
      refine hb8.ld rfl (hb8.ld rfl (rn_look (z := (0 : Int)) (a, e.group) hm8 u52 k54 z3 ((m (a, e.group)).getD 0, (m (a, e.group)).isSome) rfl ?_))
      refine hE8.at.ld (j := 3) rfl ⟨fun hc => ?_, fun hc => ?_⟩
      · rw [Bool.and_eq_true, Bool.not_eq_true'] at hc
        have h5 : e.kind = 5 := of_decide_eq_true hc.1
        have hawho : a = e.who := by rw [ha, if_neg (by omega)]
        have hno : m (e.who, e.group) = none := by
          rw [← hawho]
          simpa using hc.2
        obtain ⟨e1, e2⟩ := step_join (n := i.toNat) hmok h5 hno
        rw [e1]
        refine hb8.ld rfl (hb8.ld rfl (rn_mset (a, e.group) (out.len : Int) hm8 u52 k54 fun w11 m11 on11 _ => ?_))
        have st11 : Stp (fun b => b = mb) w8 (fun b => b = mb) w11 := ⟨on11, fun b h => .inl h⟩
        have hO11 := hO8.s1 st11
        have hb11 := hb8.keep on11 (hm8.ne_blk hb8)
        have ho11 := ho8.keep on11 hO8.d01
        refine hb11.ld rfl (hb11.ld rfl (OwnF.push (news := sy ⟨a, e.group, i, -1⟩) ap37 ho11 rfl rfl (by unfold maxLen; omega) (by omega) fun r w13 F' o13 _ st13 => ?_))
        refine ⟨F', mset m (a, e.group) (out.len : Int), ?_, m11.keep st13.only (fun hF => hO11.d01 _ hF rfl), ?_, hO11.s0 st13⟩
        · rw [hawho] at o13
          rw [show ((i.toNat : Nat) : Int) = i by omega]
          simpa using o13
        · rw [hawho, hol]
          exact e2
      · have hcase : e.kind = 5 → m (e.who, e.group) ≠ none := fun h5 hn => by
          have hawho : a = e.who := by rw [ha, if_neg (by omega)]
          rw [hawho, hn, h5] at hc
          simp at hc
        refine hE8.at.ld (j := 3) rfl (jp.val (decide (e.kind = 6 ∨ e.kind = 7)) ⟨fun h6 => ?_, fun h6 => hE8.at.ld (j := 3) rfl ?_⟩ ⟨fun hd => ?_, fun hd => ?_⟩)
        · exact (decide_eq_true (.inl (of_decide_eq_true h6))).symm
        · have := of_decide_eq_false h6
          show decide _ = decide _
          rw [decide_eq_decide]
          exact ⟨.inr, fun e => e.elim (fun e => absurd e this) id⟩
        · rw [Bool.and_eq_true] at hd
          obtain ⟨k, hk⟩ := Option.isSome_iff_exists.1 hd.2
          have hEn : En e a e.group := by
            have := of_decide_eq_true hd.1
            unfold En
            rw [ha]
            split <;> omega
          obtain ⟨t, ht, k0, e1, e2⟩ := step_end (n := i.toNat) hmok hEn hk
          rw [e1]
          rw [hk]
          refine ho8.setj (y := { t with to := i }) sy_len k0 ht rfl (by decide) fun w14 o14 on14 _ => ?_
          have st14 : Stp F w8 F w14 := ⟨on14, fun b h => .inl h⟩
          have hO14 := hO8.s0 st14
          have hb14 : Blk w14 b23 54 #[.int .i64 a, .int .i64 e.group] := hb8.keep on14 fun hF => by
            have := hO8.sep.lt 0 b23 (by unfold two; simpa using hF)
            have := hO.sep.lt 0 b23 (by unfold two; simpa using hF)
            omega
          have hm14 := hm8.keep on14 (fun hF => hO8.d01 _ hF rfl)
          refine hb14.ld rfl (hb14.ld rfl (rn_mdel rfl (a, e.group) hm14 u52 k54 fun w15 m15 on15 _ => ?_))
          have st15 : Stp (fun b => b = mb) w14 (fun b => b = mb) w15 := ⟨on15, fun b h => .inl h⟩
          refine ⟨F, mdel m (a, e.group), ?_, m15, e2, hO14.s1 st15⟩
          rw [show ((i.toNat : Nat) : Int) = i by omega]
          exact o14.keep on15 hO14.d01
        · have he' : ∀ b g, En e b g → m (b, g) = none := fun b g hE => by
            have h67 : e.kind = 6 ∨ e.kind = 7 := by unfold En at hE; omega
            have : b = a ∧ g = e.group := by
              unfold En at hE
              rw [ha]
              split <;> omega
            obtain ⟨rfl, rfl⟩ := this
            rw [decide_eq_true h67] at hd
            simpa using hd
          rw [step_else hmok hcase he']
          exact ⟨F, m, ho8, hm8, hmok, hO8⟩
    · rintro r w3 ⟨F', m', o', mp', mo', hO'⟩
      rw [w64 (by omega) (by omega)]
      refine ⟨⟨by (try dsimp only); omega, by (try dsimp only); omega, F', m', ?_, mp', ?_, hO'⟩, by (try dsimp only); omega⟩
      · show OwnF w3 F' 43 4 r ((S (l.take (i + 1).toNat)).flatMap sy)
        rw [toNat_succ i0]
        exact o'
      · show MOK (S (l.take (i + 1).toNat)) m'
        rw [toNat_succ i0]
        exact mo'
  · have : l.take i.toNat = l := List.take_of_length_le (by have := of_decide_eq_false hi; omega)
    rw [this] at ho
    exact ⟨F, ho, q02, fun b hb => ⟨hO.sep.ge 0 b (by unfold two; simpa using hb), hO.sep.lt 0 b (by unfold two; simpa using hb)⟩⟩
end Go.Proofs.Ytcnnnhligkpamaa
