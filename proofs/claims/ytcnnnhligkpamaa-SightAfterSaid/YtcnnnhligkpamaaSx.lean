import Derived.Test.YtcnnnhligkpamaaSu
namespace Go.Proofs.Ytcnnnhligkpamaa
open Go.Dec Go.RowKit
set_option maxHeartbeats 400000

def inB (op kp : Bool) (l : List Ev) (s : Sy) (id : Int) : Bool := (op || decide (s.frm < id)) && (decide (s.to = -1 ∨ id < s.to) || (kp && !keyP l s.grp (s.to + 1) id))
theorem lets_in (p : Pf) (l : List Ev) (s : Sy) (id : Int) : letsP p s l id = inB (decide (p.history = 1)) (decide (p.remove = 1)) l s id := by
  unfold letsP inB
  by_cases h1 : p.history = 1
  · by_cases h2 : s.to = -1 ∨ id < s.to
    · simp [h1, h2]
    · by_cases h3 : p.remove = 1 <;> simp [h1, h2, h3]
  · by_cases h4 : id ≤ s.frm
    · have : ¬ s.frm < id := by omega
      simp [h1, h4, this]
    · have : s.frm < id := by omega
      by_cases h2 : s.to = -1 ∨ id < s.to
      · simp [h1, h4, h2, this]
      · by_cases h3 : p.remove = 1 <;> simp [h1, h4, h2, h3, this]
theorem all_in {nets : List Pf} (hn : nets ≠ []) (l : List Ev) (s : Sy) (id : Int) : (nets.all fun p => letsP p s l id) = inB (nets.all fun p => decide (p.history = 1)) (nets.all fun p => decide (p.remove = 1)) l s id := by
  rw [Bool.eq_iff_iff]
  unfold inB
  constructor
  · intro h
    rw [List.all_eq_true] at h
    have h' : ∀ p ∈ nets, inB (decide (p.history = 1)) (decide (p.remove = 1)) l s id = true := fun p hp => by
      rw [← lets_in]
      exact h p hp
    unfold inB at h'
    obtain ⟨p0, hp0⟩ := List.exists_mem_of_ne_nil nets hn
    by_cases h4 : s.frm < id
    · by_cases h2 : s.to = -1 ∨ id < s.to
      · simp [h4, h2]
      · have h5 : ∀ p ∈ nets, p.remove = 1 := fun p hp => by
          have := h' p hp
          simp [h4, h2] at this
          exact this.1
        have h6 := h' p0 hp0
        simp [h4, h2] at h6 ⊢
        exact ⟨h5, h6.2⟩
    · have h7 : ∀ p ∈ nets, p.history = 1 := fun p hp => by
        have := h' p hp
        simp [h4] at this
        exact this.1
      by_cases h2 : s.to = -1 ∨ id < s.to
      · simp [h4, h2]
        exact h7
      · have h5 : ∀ p ∈ nets, p.remove = 1 := fun p hp => by
          have := h' p hp
          simp [h4, h2] at this
          exact this.2.1
        have h6 := h' p0 hp0
        simp [h4, h2] at h6 ⊢
        exact ⟨h7, h5, h6.2.2⟩
  · intro h
    rw [List.all_eq_true]
    intro p hp
    rw [lets_in]
    unfold inB
    rw [Bool.and_eq_true, Bool.or_eq_true] at h ⊢
    refine ⟨h.1.imp (fun e => List.all_eq_true.1 e p hp) fun e => e, ?_⟩
    have h2 := h.2
    rw [Bool.or_eq_true] at h2 ⊢
    refine h2.imp (fun e => e) fun e => ?_
    rw [Bool.and_eq_true] at e ⊢
    exact ⟨List.all_eq_true.1 e.1 p hp, e.2⟩
/-- what the law wants, of the first stays -/
def wantP (net : Int) (a : Int) (e : Ev) (op kp : Bool) (l : List Ev) (id : Int) (st : List Sy) : Bool := decide (0 ≤ net ∧ e.author = a) || st.any fun s => decide (s.grp = e.group) && (inB op kp l s id && decide (s.acc = a ∧ 0 ≤ net))
def someP (n : Int) (e : Ev) (op kp : Bool) (l : List Ev) (id : Int) (st : List Sy) : Bool := decide (netP e.author = n) || st.any fun s => decide (s.grp = e.group) && (inB op kp l s id && decide (netP s.acc = n))
theorem want_all {nets : List Pf} (hn : nets ≠ []) {l : List Ev} {a id : Int} {e : Ev} (h0 : 0 ≤ id) (he : l[id.toNat]? = some e) :
    SeesP nets l a id = wantP (netP a) a e (nets.all fun p => decide (p.history = 1)) (nets.all fun p => decide (p.remove = 1)) l id (S l) := by
  have hlt := (List.getElem?_eq_some_iff.1 he).1
  unfold SeesP seesP wantP
  rw [he]
  dsimp only
  by_cases hnet : 0 ≤ netP a
  · rw [decide_eq_true (show 0 ≤ netP a ∧ 0 ≤ id ∧ id < l.length from ⟨hnet, h0, by omega⟩), Bool.true_and]
    congr 1
    · rw [decide_eq_decide]
      exact ⟨fun e => ⟨hnet, e⟩, fun e => e.2⟩
    · congr 1
      funext s
      rw [all_in hn]
      by_cases h1 : s.acc = a <;> by_cases h2 : s.grp = e.group <;> simp [h1, h2, hnet]
  · rw [decide_eq_false fun c => hnet c.1, Bool.false_and, decide_eq_false fun c => hnet c.1, Bool.false_or]
    refine (List.any_eq_false.2 fun s _ => ?_).symm
    simp [hnet]
theorem some_all {nets : List Pf} (hn : nets ≠ []) {l : List Ev} {n id : Int} {e : Ev} (hn0 : 0 ≤ n) (h0 : 0 ≤ id) (he : l[id.toNat]? = some e) :
    ToP nets l n id = someP n e (nets.all fun p => decide (p.history = 1)) (nets.all fun p => decide (p.remove = 1)) l id (S l) := by
  rw [ToP_at h0 he]
  unfold someP
  have hsee : ∀ a, seesP nets l a id = (decide (e.author = a) || (S l).any fun s => decide (s.acc = a ∧ s.grp = e.group) && nets.all fun p => letsP p s l id) := fun a => by
    unfold seesP
    rw [he]
  rw [Bool.eq_iff_iff, List.any_eq_true, Bool.or_eq_true, List.any_eq_true]
  constructor
  · rintro ⟨a, ha, h⟩
    rw [Bool.and_eq_true, hsee, Bool.or_eq_true] at h
    have h1 := of_decide_eq_true h.1
    rcases h.2 with h2 | h2
    · exact .inl (decide_eq_true (by rw [of_decide_eq_true h2]; exact h1.2))
    · rw [List.any_eq_true] at h2
      obtain ⟨s, hs, h3⟩ := h2
      rw [Bool.and_eq_true] at h3
      have h4 := of_decide_eq_true h3.1
      refine .inr ⟨s, hs, ?_⟩
      rw [← all_in hn, h3.2, decide_eq_true h4.2, decide_eq_true (by rw [h4.1]; exact h1.2 : netP s.acc = n)]
      rfl
  · rintro (h | ⟨s, hs, h⟩)
    · have h := of_decide_eq_true h
      refine ⟨e.author, by simp, ?_⟩
      rw [hsee]
      simp
      omega
    · rw [Bool.and_eq_true, Bool.and_eq_true] at h
      have h1 := of_decide_eq_true h.1
      have h2 := of_decide_eq_true h.2.2
      refine ⟨s.acc, List.mem_cons_of_mem _ (List.mem_map.2 ⟨s, hs, rfl⟩), ?_⟩
      rw [Bool.and_eq_true, hsee, Bool.or_eq_true, List.any_eq_true]
      refine ⟨decide_eq_true ⟨by omega, h2⟩, .inr ⟨s, hs, ?_⟩⟩
      rw [all_in hn, h.2.1, decide_eq_true ⟨rfl, h1⟩]
      rfl

theorem after_c (w : World) (s t : Sl) (nets : List Pf) (l : List Ev) (a n : Int) (hs : Rd w pf 22 s nets) (h : Rd w ev 12 t l) (hl : l.length ≤ maxLen) (hc : t.len ≤ t.cap) (n0 : 0 ≤ n) (n1 : n ≤ 255) :
    callC Try.prog 6 #[s.v, t.v, .int .i64 a, .int .u8 n] (fun (r : Bool) => .bool r) w fun r w' => r = true ∧ Quiet w w' := by
  have hsl := hs.len
  have htl := h.len
  have hSl := S_len l
  refine D6 _ _ _ _ w _ ?_
  unfold F6
  rw [w64 (x := n) (by omega) (by omega)]
  refine (small_c w).use ?_
  rintro r1 w1 ⟨rfl, q1⟩
  refine (few_c w1 s t nets l (hs.keepQ q1) (h.keepQ q1) hl).use ?_
  rintro r2 w2 ⟨hr2, q2⟩
  have q02 := q1.tr q2
  refine ⟨fun _ => ⟨rfl, q02⟩, fun g => ?_⟩
  rw [Bool.or_eq_false_iff] at g
  obtain ⟨k1, k2⟩ := hr2 (by simpa using g.1)
  have hne : nets ≠ [] := fun e => by
    have := of_decide_eq_false g.2
    rw [hsl, e] at this
    simp at this
  refine (stays_c w2 t l (h.keepQ q02) (by omega)).use ?_
  rintro r6 w3 ⟨F, o, f⟩
  have hst := o.rd sy_len (by decide)
  have hstl := hst.len
  have q03 := q02.tr f.q
  have hs3 := hs.keepQ q03
  have h3 := h.keepQ q03
  refine ⟨fun (c : Bool × Bool × Int) w' => 0 ≤ c.2.2 ∧ c.2.2 ≤ nets.length ∧ c.1 = ((nets.take c.2.2.toNat).all fun p => decide (p.history = 1)) ∧ c.2.1 = ((nets.take c.2.2.toNat).all fun p => decide (p.remove = 1)) ∧ Quiet w3 w', fun c _ => (nets.length - c.2.2).toNat, ⟨by simp, by simp, by simp, by simp, Only.refl _ _⟩, ?_⟩
  rintro ⟨op, kp, i⟩ w4 ⟨i0, i1, hop, hkp, q4⟩
  dsimp only at i0 i1 hop hkp ⊢
  refine ⟨fun hi => ?_, fun hi => ?_⟩
  · have hlt : i < nets.length := by rw [hsl] at hi; exact of_decide_eq_true hi
    obtain ⟨p, hp⟩ := getq i0 hlt
    have hp4 := hs3.keepQ q4
    refine jp.val (op && decide (p.history = 1)) ⟨fun g => hp4.ixx i0 hp fun pp hat _ => hat.ld (j := 14) rfl (by have g : op = true := g; rw [g]; rfl), fun g => by have g : op = false := g; rw [g]; rfl⟩ ?_
    refine jp.val (kp && decide (p.remove = 1)) ⟨fun g => hp4.ixx i0 hp fun pp hat _ => hat.ld (j := 15) rfl (by have g : kp = true := g; rw [g]; rfl), fun g => by have g : kp = false := g; rw [g]; rfl⟩ ?_
    rw [w64 (by omega) (by omega)]
    refine ⟨⟨by (try dsimp only); omega, by (try dsimp only); omega, ?_, ?_, q4⟩, by (try dsimp only); omega⟩
    · show _ = ((nets.take (i + 1).toNat).all fun p => decide (p.history = 1))
      rw [toNat_succ i0, take_next hp, List.all_append, ← hop]
      simp
    · show _ = ((nets.take (i + 1).toNat).all fun p => decide (p.remove = 1))
      rw [toNat_succ i0, take_next hp, List.all_append, ← hkp]
      simp
  have hge : nets.length ≤ i.toNat := by have := of_decide_eq_false hi; omega
  rw [List.take_of_length_le hge] at hop hkp
  have WA := fun {id : Int} {e : Ev} (h0 : 0 ≤ id) (he : l[id.toNat]? = some e) => want_all (a := a) hne h0 he
  have SA := fun {id : Int} {e : Ev} (h0 : 0 ≤ id) (he : l[id.toNat]? = some e) => some_all (n := n) hne n0 h0 he
  rw [← hop, ← hkp] at WA SA
  clear hop hkp hi
  refine ⟨fun id w' => 0 ≤ id ∧ id ≤ l.length ∧ Quiet w3 w', fun id _ => (l.length - id).toNat, ⟨by omega, by omega, q4⟩, ?_⟩
  rintro id w5 ⟨d0, d1, q5⟩
  refine ⟨fun hd => ?_, fun _ => ⟨rfl, q03.tr q5⟩⟩
  have hdl : id < l.length := by rw [htl] at hd; exact of_decide_eq_true hd
  obtain ⟨e, he⟩ := getq d0 hdl
  have WA := WA d0 he
  have SA := SA d0 he
  refine (Sees_c w5 s t nets l a id (hs3.keepQ q5) (h3.keepQ q5) (by omega) (by omega) hc).use ?_
  rintro r21 w6 ⟨rfl, q6⟩
  have q36 := q5.tr q6
  refine (net_c w6 a).use ?_
  rintro r22 w7 ⟨rfl, rfl⟩
  refine jp.val (decide (0 ≤ netP a ∧ e.author = a)) ⟨fun g => (h3.keepQ q36).ixx d0 he fun p hat _ => hat.ld (j := 0) rfl ?_, fun g => ?_⟩ ?_
  · have g := of_decide_eq_true g
    show decide _ = decide _
    rw [decide_eq_decide]
    exact ⟨fun c => ⟨g, c⟩, fun c => c.2⟩
  · have g := of_decide_eq_false g
    exact (decide_eq_false fun c => g c.1).symm
  refine (h3.keepQ q36).ixx d0 he fun p hat _ => hat.ld (j := 0) rfl ((net_c w6 e.author).use ?_)
  rintro r30 w8 ⟨rfl, rfl⟩
  refine ⟨fun (c : Bool × Bool × Int) w' => 0 ≤ c.2.2 ∧ c.2.2 ≤ (S l).length ∧ c.1 = wantP (netP a) a e op kp l id ((S l).take c.2.2.toNat) ∧ c.2.1 = someP n e op kp l id ((S l).take c.2.2.toNat) ∧ Quiet w3 w', fun c _ => ((S l).length - c.2.2).toNat,
    ⟨by simp, by simp, by simp [wantP], by simp [someP], q36⟩, ?_⟩
  rintro ⟨want, som, k⟩ w9 ⟨c0, c1, hwant, hsom, q9⟩
  dsimp only at c0 c1 hwant hsom ⊢
  refine ⟨fun hk => ?_, fun hk => ?_⟩
  · have hkl : k < (S l).length := by rw [hstl] at hk; exact of_decide_eq_true hk
    obtain ⟨x, hx⟩ := getq c0 hkl
    have hxr := S_rng l x (List.mem_of_getElem? hx)
    refine jn.mk (fun (c : Bool × Bool) w' => c.1 = wantP (netP a) a e op kp l id ((S l).take (k.toNat + 1)) ∧ c.2 = someP n e op kp l id ((S l).take (k.toNat + 1)) ∧ Quiet w3 w') ?_ ?_
    · have hW : wantP (netP a) a e op kp l id ((S l).take (k.toNat + 1)) = (want || (decide (x.grp = e.group) && (inB op kp l x id && decide (x.acc = a ∧ 0 ≤ netP a)))) := by
        rw [hwant]
        unfold wantP
        rw [take_next hx, List.any_append]
        simp [Bool.or_assoc]
      have hS : someP n e op kp l id ((S l).take (k.toNat + 1)) = (som || (decide (x.grp = e.group) && (inB op kp l x id && decide (netP x.acc = n)))) := by
        rw [hsom]
        unfold someP
        rw [take_next hx, List.any_append]
        simp [Bool.or_assoc]
      rw [hW, hS]
      refine (hst.keepQ q9).ixx c0 hx fun p hat _ => sy_ld hat (sy_box fun b40 w12 hb40 q12 _ _ => ?_)
      have q312 := q9.tr q12
      refine jn.mk (fun b w' => b = !decide (x.grp = e.group) ∧ Quiet w12 w') ?_ ?_
      · show tk w12 _
        unfold tk
        have qd : Quiet w12 w12.drew := Only.drew _ _
        exact (hb40.keepQ qd).at.ld (j := 1) rfl ((h3.keepQ (q312.tr qd)).ixx d0 he fun p hat _ => hat.ld (j := 4) rfl ⟨rfl, qd⟩)
      rintro b w14 ⟨rfl, q14⟩
      have q314 := q312.tr q14
      refine ⟨fun g => ?_, fun g => ?_⟩
      · have : ¬ x.grp = e.group := by simpa using g
        refine ⟨?_, ?_, q314⟩ <;> simp [this]
      have hgr : x.grp = e.group := by simpa using g
      have B14 := hb40.keepQ q14
      refine B14.at.ld (j := 3) rfl ?_
      rw [w64 (by omega) (by omega)]
      refine ⟨fun (c : Bool × Int) w' => max x.to 0 + 1 ≤ c.2 ∧ (0 ≤ x.to → c.2 ≤ max (id + 1) (x.to + 1) ∧ c.1 = keyP l x.grp (x.to + 1) (c.2 - 1)) ∧ Quiet w14 w', fun c _ => (id + 1 - c.2).toNat, ⟨by omega, fun ht => ⟨by (try dsimp only); omega, ?_⟩, Only.refl _ _⟩, ?_⟩
      · unfold keyP
        rw [List.drop_of_length_le (by rw [List.length_take]; dsimp only; omega)]
        rfl
      rintro ⟨key, j⟩ w15 ⟨j0, hkey, q15⟩
      dsimp only at j0 hkey ⊢
      have B15 := B14.keepQ q15
      have q315 := q314.tr q15
      refine jp.val (decide (j ≤ id ∧ 0 ≤ x.to)) ⟨fun g => B15.at.ld (j := 3) rfl ?_, fun g => ?_⟩ ⟨fun g => ?_, fun g => ?_⟩
      · have g := of_decide_eq_true g
        show decide _ = decide _
        rw [decide_eq_decide]
        exact ⟨fun c => ⟨g, c⟩, fun c => c.2⟩
      · have g := of_decide_eq_false g
        exact (decide_eq_false fun c => g c.1).symm
      · have g := of_decide_eq_true g
        obtain ⟨hk1, hk2⟩ := hkey g.2
        obtain ⟨y, hy⟩ := getq (l := l) (i := j) (by omega) (by omega)
        have hcut : keyP l x.grp (x.to + 1) j = (key || decide (y.kind = 8 ∧ y.group = x.grp)) := by
          rw [hk2]
          unfold keyP
          rw [show (j + 1).toNat = j.toNat + 1 by omega, take_next hy, List.drop_append_of_le_length (by rw [List.length_take]; omega), List.any_append, show (j - 1 + 1) = j by omega]
          simp
        refine jn.mk (fun c w' => c = keyP l x.grp (x.to + 1) j ∧ Quiet w14 w') ?_ ?_
        · show tk w15 _
          unfold tk
          have qd : Quiet w15 w15.drew := Only.drew _ _
          have hev := h3.keepQ (q315.tr qd)
          rw [hcut]
          refine ⟨fun g1 => ⟨by (have g1 : key = true := g1); rw [g1]; rfl, q15.tr qd⟩, fun g1 => ?_⟩
          have g1 : key = false := g1
          rw [g1, Bool.false_or]
          refine hev.ixx (by omega) hy fun p hat _ => hat.ld (j := 3) rfl ⟨fun h8 => hev.ixx (by omega) hy fun p hat _ => hat.ld (j := 4) rfl ((B15.keepQ qd).at.ld (j := 1) rfl ⟨?_, q15.tr qd⟩), fun h8 => ⟨?_, q15.tr qd⟩⟩
          · have := of_decide_eq_true h8
            simp [this]
          · have := of_decide_eq_false h8
            exact (decide_eq_false fun c => this c.1).symm
        · rintro c w17 ⟨rfl, q17⟩
          rw [w64 (by omega) (by omega)]
          refine ⟨⟨by (try dsimp only); omega, fun _ => ⟨by (try dsimp only); omega, ?_⟩, q17⟩, by (try dsimp only); omega⟩
          show _ = keyP l x.grp (x.to + 1) (j + 1 - 1)
          rw [show j + 1 - 1 = j by omega]
      · have g := of_decide_eq_false g
        have hin : inB op kp l x id = ((op || decide (x.frm < id)) && (decide (x.to = -1 ∨ id < x.to) || (kp && !key))) := by
          unfold inB
          by_cases ht : 0 ≤ x.to
          · obtain ⟨hk1, hk2⟩ := hkey ht
            by_cases hid : x.to ≤ id
            · have : j = id + 1 := by omega
              rw [hk2, this, show id + 1 - 1 = id by omega]
            · have h2 : x.to = -1 ∨ id < x.to := by omega
              simp [h2]
          · have h2 : x.to = -1 ∨ id < x.to := by omega
            simp [h2]
        rw [hin, decide_eq_true hgr, Bool.true_and, Bool.true_and]
        refine jp.val (op || decide (x.frm < id)) ⟨fun g1 => (by have g1 : op = true := g1; rw [g1]; rfl), fun g1 => B15.at.ld (j := 2) rfl (by have g1 : op = false := g1; rw [g1]; rfl)⟩ ?_
        refine jp.val ((op || decide (x.frm < id)) && (decide (x.to = -1 ∨ id < x.to) || (kp && !key))) ⟨fun g1 => B15.at.ld (j := 3) rfl (jp.val (decide (x.to = -1 ∨ id < x.to)) ⟨fun g2 => ?_, fun g2 => B15.at.ld (j := 3) rfl ?_⟩ ?_), fun g1 => ?_⟩ ?_
        · exact (decide_eq_true (.inl (of_decide_eq_true g2))).symm
        · have g2 := of_decide_eq_false g2
          show decide _ = decide _
          rw [decide_eq_decide]
          exact ⟨.inr, fun e => e.elim (fun e => absurd e g2) fun e => e⟩
        · have g1 : (op || decide (x.frm < id)) = true := g1
          rw [g1, Bool.true_and]
        · have g1 : (op || decide (x.frm < id)) = false := g1
          rw [g1, Bool.false_and]
        generalize ((op || decide (x.frm < id)) && (decide (x.to = -1 ∨ id < x.to) || (kp && !key))) = inn
        refine jn.mk (fun c w' => c = (want || (inn && decide (x.acc = a ∧ 0 ≤ netP a))) ∧ w15 = w') ⟨fun g1 => ⟨by (have g1 : want = true := g1); rw [g1]; rfl, rfl⟩, fun g1 => ?_⟩ ?_
        · have g1 : want = false := g1
          rw [g1, Bool.false_or]
          refine jp.val (inn && decide (x.acc = a)) ⟨fun g2 => B15.at.ld (j := 0) rfl (by have g2 : inn = true := g2; rw [g2]; rfl), fun g2 => (by have g2 : inn = false := g2; rw [g2]; rfl)⟩ ?_
          refine jn.mk (fun c w' => c = (inn && decide (x.acc = a ∧ 0 ≤ netP a)) ∧ w15 = w') ⟨fun g2 => (net_c w15 a).use ?_, fun g2 => ⟨?_, rfl⟩⟩ fun c w' h => h
          · rintro r w18 ⟨rfl, rfl⟩
            rw [Bool.and_eq_true] at g2
            refine ⟨?_, rfl⟩
            rw [g2.1, Bool.true_and, decide_eq_decide]
            exact ⟨fun c => ⟨of_decide_eq_true g2.2, c⟩, fun c => c.2⟩
          · rw [Bool.and_eq_false_iff] at g2
            rcases g2 with g2 | g2
            · rw [g2]
              rfl
            · rw [decide_eq_false fun c => of_decide_eq_false g2 c.1, Bool.and_false]
        rintro c96 w20 ⟨rfl, rfl⟩
        refine jn.mk (fun c w' => c = (som || (inn && decide (netP x.acc = n))) ∧ w15 = w') ⟨fun g1 => ⟨by (have g1 : som = true := g1); rw [g1]; rfl, rfl⟩, fun g1 => ?_⟩ ?_
        · have g1 : som = false := g1
          rw [g1, Bool.false_or]
          refine jn.mk (fun c w' => c = (inn && decide (netP x.acc = n)) ∧ w15 = w') ⟨fun g2 => B15.at.ld (j := 0) rfl ((net_c w15 x.acc).use ?_), fun g2 => ⟨by (have g2 : inn = false := g2); rw [g2]; rfl, rfl⟩⟩ fun c w' h => h
          rintro r w21 ⟨rfl, rfl⟩
          have g2 : inn = true := g2
          exact ⟨by rw [g2]; rfl, rfl⟩
        rintro c104 w23 ⟨rfl, rfl⟩
        exact ⟨rfl, rfl, q315⟩
    · rintro ⟨c1', c2'⟩ w10 ⟨e1, e2, q10⟩
      dsimp only at e1 e2
      rw [w64 (by omega) (by omega)]
      refine ⟨⟨by (try dsimp only); omega, by (try dsimp only); omega, ?_, ?_, q10⟩, by (try dsimp only); omega⟩
      · show _ = wantP (netP a) a e op kp l id ((S l).take (k + 1).toNat)
        rw [toNat_succ c0]
        exact e1
      · show _ = someP n e op kp l id ((S l).take (k + 1).toNat)
        rw [toNat_succ c0]
        exact e2
  · have hge : (S l).length ≤ k.toNat := by have := of_decide_eq_false hk; omega
    rw [List.take_of_length_le hge] at hwant hsom
    rw [← WA] at hwant
    rw [← SA] at hsom
    refine jn.mk (fun c w' => c = false ∧ Quiet w3 w') ⟨fun g1 => ?_, fun _ => (To_c w9 s t nets l n id (hs3.keepQ q9) (h3.keepQ q9) (by omega) (by omega) hc).use ?_⟩ ?_
    · rw [hwant] at g1
      simp at g1
    · rintro r w24 ⟨rfl, q24⟩
      exact ⟨by rw [hsom]; simp, q9.tr q24⟩
    rintro _ w25 ⟨rfl, q25⟩
    refine ⟨fun g => (by cases g), fun _ => ?_⟩
    rw [w64 (by omega) (by omega)]
    exact ⟨⟨by omega, by omega, q25⟩, by (try dsimp only); omega⟩
theorem after (W : World) (s : Sl) (nets : List Pf) (hs : Rd W pf 22 s nets) (_ : ∀ ad, s.a = some ad → 0 < nets.length → ad.block < W.heap.size) (_ : nets.length ≤ maxLen)
    (t : Sl) (l : List Ev) (h : Rd W ev 12 t l) (_ : ∀ ad, t.a = some ad → 0 < l.length → ad.block < W.heap.size) (hl : l.length ≤ maxLen) (hc : t.len ≤ t.cap) (a : Int) (_ : -9223372036854775808 ≤ a) (_ : a ≤ 9223372036854775807) (n : Int) (h0 : 0 ≤ n) (h1 : n ≤ 255) :
    callC Try.prog 6 #[s.v, t.v, .int .i64 a, .int .u8 n] (fun (r : Bool) => .bool r) W fun r w' => r = true ∧ Below W.heap.size W w' :=
  (after_c W s t nets l a n hs h hl hc h0 h1).use fun _ _ h => ⟨h.1, bq h.2⟩
end Go.Proofs.Ytcnnnhligkpamaa
