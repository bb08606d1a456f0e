import Derived.Test.YthnebjgmhdilbaaEp
namespace Go.Proofs.Ythnebjgmhdilbaa
open Go.Dec Go.RowKit
set_option maxHeartbeats 400000

theorem ints_c (w : World) (s t : Sl) (a b : List Int) (ha : Rd w ci 1 s a) (hb : Rd w ci 1 t b) (hl : a.length ≤ 1000000) :
    callC Try.prog 8 #[s.v, t.v] (fun (r : Bool) => .bool r) w fun r w' => r = decide (a = b) ∧ Quiet w w' := by
  have hsl := ha.len
  have htl := hb.len
  refine D8 _ _ w _ ?_
  unfold F8
  refine ⟨fun hc => ?_, fun hc => ?_⟩
  · have : a ≠ b := fun e => by simp [hsl, htl, e] at hc
    simp [this, Only.refl]
  have hlen : a.length = b.length := by rw [hsl, htl] at hc; simp at hc; omega
  refine ⟨fun i w' => 0 ≤ i ∧ i ≤ a.length ∧ a.take i.toNat = b.take i.toNat ∧ Quiet w w', fun i _ => (a.length - i).toNat, ⟨by omega, by omega, by simp, Only.refl _ _⟩, ?_⟩
  rintro i w1 ⟨i0, i1, he, q1⟩
  refine ⟨fun hi => ?_, fun hi => ?_⟩
  · have hlt : i < a.length := by simpa [hsl] using hi
    obtain ⟨x, hx⟩ := getq i0 hlt
    obtain ⟨y, hy⟩ := getq (l := b) i0 (by omega)
    refine jn.mk (fun c w' => c = !decide (x = y) ∧ Quiet w w') ?_ ?_
    · show tk w1 _
      unfold tk
      have q2 : Quiet w w1.drew := q1.tr (Only.drew _ _)
      exact (ha.keepQ q2).ixx i0 hx fun p hat _ => hat.ld0 rfl ((hb.keepQ q2).ixx i0 hy fun p' hat' _ => hat'.ld0 rfl ⟨rfl, q2⟩)
    · rintro c w3 ⟨rfl, q3⟩
      refine ⟨fun hc => ?_, fun hc => ?_⟩
      · have hne : x ≠ y := by simpa using hc
        have : a ≠ b := fun e => by rw [e, hy] at hx; injection hx with hx; exact hne hx.symm
        simp [this, q3]
      · have heq : x = y := by simpa using hc
        rw [w64 (by omega) (by omega)]
        refine ⟨⟨by omega, by omega, ?_, q3⟩, by (try dsimp only); omega⟩
        rw [toNat_succ i0, take_next hx, take_next hy, he, heq]
  · have hge : a.length ≤ i.toNat := by simp [hsl] at hi; omega
    rw [List.take_of_length_le hge, List.take_of_length_le (by omega)] at he
    simp [he, q1]

theorem pairsD_snd (l : List Cp) (near : Int) (cs : List Cp) : (pairsD l near cs).map Prod.snd = cs.map fun c => netP c.acc := by
  have : ∀ (cs : List Cp) (acc : Done), (cs.foldl (fun done c => done ++ [stepD l near done c]) acc).map Prod.snd = acc.map Prod.snd ++ cs.map fun c => netP c.acc := by
    intro cs
    induction cs with
    | nil => intro acc; simp
    | cons c cs ih => intro acc; rw [List.foldl_cons, ih]; simp [stepD]
  simpa [pairsD] using this cs []
theorem pairsP_len (l : List Cp) (near : Int) (cs : List Cp) : (pairsP l near cs).length = cs.length := by
  unfold pairsP
  rw [List.length_map, pairsD_len]
theorem usedD_snoc (done : Done) (net n a m : Int) : usedD (done ++ [(a, m)]) net n = (usedD done net n || decide (a = n ∧ m = net)) := by
  unfold usedD
  rw [Bool.eq_iff_iff]
  simp
  constructor
  · rintro (h | ⟨rfl, rfl⟩)
    · exact .inl h
    · exact .inr ⟨rfl, rfl⟩
  · rintro (h | ⟨rfl, rfl⟩)
    · exact .inl h
    · exact .inr ⟨rfl, rfl⟩

theorem rpairs_c (w : World) (s t : Sl) (l cs : List Cp) (near : Int) (h : Rd w cp 5 s l) (h' : Rd w cp 5 t cs) (hl : l.length ≤ 1000) (hl' : cs.length ≤ 1000) (hs : ∀ x ∈ l, i64 x.step) (hs' : ∀ x ∈ cs, i64 x.step) (hn : near ≤ 9223372036854775807) :
    callC Try.prog 10 #[s.v, t.v, .int .i64 near] Sl.v w fun r w' => ∃ F, OwnF w' F 3 1 r ((pairsP l near cs).flatMap ci) ∧ Fresh w w' F := by
  have hsl := h.len
  have htl := h'.len
  refine D10 _ _ _ w _ ?_
  unfold F10
  refine ⟨fun (c : Sl × Int) w' => 0 ≤ c.2 ∧ c.2 ≤ cs.length ∧ ∃ F, OwnF w' F 3 1 c.1 ((pairsP l near (cs.take c.2.toNat)).flatMap ci) ∧ Fresh w w' F, fun c _ => (cs.length - c.2).toNat, ⟨by simp, by simp, _, by simpa [pairsP, pairsD] using OwnF.nil _ _ _ _, Fresh.none w⟩, ?_⟩
  rintro ⟨out, i⟩ w1 ⟨i0, i1, F, ho, hf⟩
  dsimp only at i0 i1 ho ⊢
  refine ⟨fun hi => ?_, fun hi => ?_⟩
  · have hlt : i < cs.length := by simpa [htl] using hi
    obtain ⟨c, hc⟩ := getq i0 hlt
    have hcs := hs' c (List.mem_of_getElem? hc)
    have htk := take_next hc
    have hdl := pairsD_len l near (cs.take i.toNat)
    have hdn := pairsD_snd l near (cs.take i.toNat)
    rw [List.length_take] at hdl
    unfold pairsP at ho
    generalize hdone : pairsD l near (cs.take i.toNat) = done at *
    have hout := ho.rd ci1 (by decide)
    refine ⟨fun (b : Int × Int) w' => 0 ≤ b.2 ∧ b.2 ≤ l.length ∧ b.1 = lastP (okP l c near (usedD done (netP c.acc))) b.2.toNat ∧ Quiet w1 w', fun b _ => (l.length - b.2).toNat, ⟨by simp, by simp, rfl, Only.refl _ _⟩, ?_⟩
    rintro ⟨best, k⟩ w2 ⟨k0, k1, hb, q2⟩
    dsimp only at k0 k1 hb ⊢
    refine ⟨fun hk => ?_, fun hk => ?_⟩
    · have hkl : k < l.length := by simpa [hsl] using hk
      obtain ⟨x, hx⟩ := getq k0 hkl
      have hxs := hs x (List.mem_of_getElem? hx)
      refine jn.mk (fun b w' => b = lastP (okP l c near (usedD done (netP c.acc))) (k.toNat + 1) ∧ Quiet w1 w') ?_ ?_
      · refine jn.mk (fun b w' => b = decide (may x c near) ∧ Quiet w1 w') ?_ ?_
        · show tk w2 _
          unfold tk
          have qd : Quiet w1 w2.drew := q2.tr (Only.drew _ _)
          refine (h.keepQ (hf.q.tr qd)).ixx k0 hx fun p hat _ => ld5 hat ((h'.keepQ (hf.q.tr qd)).ixx i0 hc fun p' hat' _ => ld5 hat' ?_)
          refine (rmay_c _ x c near hxs hcs hn).use ?_
          rintro r w4 ⟨rfl, q4⟩
          exact ⟨rfl, qd.tr q4⟩
        · rintro ok0 w3 ⟨rfl, q3⟩
          refine ⟨fun (b : Bool × Int) w' => 0 ≤ b.2 ∧ b.2 ≤ i ∧ b.1 = (decide (may x c near) && !usedD (done.take b.2.toNat) (netP c.acc) k) ∧ Quiet w1 w', fun b _ => (i - b.2).toNat, ⟨by simp, i0, by simp [usedD], q3⟩, ?_⟩
          rintro ⟨ok, j⟩ w4 ⟨j0, j1, hok, q4⟩
          dsimp only at j0 j1 hok ⊢
          refine ⟨fun hj => ?_, fun hj => ?_⟩
          · have hji : j < i := of_decide_eq_true hj
            obtain ⟨⟨a, m⟩, hd⟩ := getq (l := done) j0 (by omega)
            have hd1 : (done.map Prod.fst)[j.toNat]? = some a := by rw [List.getElem?_map, hd]; rfl
            obtain ⟨y, hy⟩ := getq (l := cs) j0 (by omega)
            have hm : m = netP y.acc := by
              have e1 : (done.map Prod.snd)[j.toNat]? = some m := by rw [List.getElem?_map, hd]; rfl
              rw [hdn, List.getElem?_map, List.getElem?_take_of_lt (by omega), hy] at e1
              injection e1 with e1
              exact e1.symm
            refine jn.mk (fun b w' => b = (ok && !decide (a = k ∧ m = netP c.acc)) ∧ Quiet w1 w') ?_ ?_
            · show tk w4 _
              unfold tk
              have qd : Quiet w1 w4.drew := q4.tr (Only.drew _ _)
              have qd0 := hf.q.tr qd
              refine ⟨fun ho => ?_, fun ho => ⟨by (have : ok = false := ho); rw [this]; rfl, qd⟩⟩
              have ho : ok = true := ho
              rw [ho]
              refine (hout.keepQ qd).ixx j0 hd1 fun p hat _ => hat.ld0 rfl ⟨fun hne => ?_, fun hne => ?_⟩
              · have : ¬ a = k := by simpa using hne
                exact ⟨by simp [this], qd⟩
              · have hak : a = k := by simpa using hne
                refine (h'.keepQ qd0).ixx j0 hy fun p1 hat1 _ => hat1.ld (j := 0) rfl ((h'.keepQ qd0).ixx i0 hc fun p2 hat2 _ => hat2.ld (j := 0) rfl ((rnet_c _ _).use ?_))
                rintro r w5 ⟨rfl, rfl⟩
                refine ⟨hat2.cj rfl, hat.cell0, (rnet_c _ _).use ?_⟩
                rintro r w5 ⟨rfl, rfl⟩
                refine ⟨hat.cell0, ?_, qd⟩
                rw [← hm, hak]
                simp
            · rintro ok' w5 ⟨rfl, q5⟩
              rw [w64 (by omega) (by omega)]
              refine ⟨⟨by (try dsimp only); omega, by (try dsimp only); omega, ?_, q5⟩, by (try dsimp only); omega⟩
              show _ = (decide (may x c near) && !usedD (done.take (j + 1).toNat) (netP c.acc) k)
              rw [toNat_succ j0, take_next hd, usedD_snoc, hok]
              simp [Bool.and_assoc]
          · have hji : done.take j.toNat = done := List.take_of_length_le (by simp at hj; omega)
            rw [hji] at hok
            have e : okP l c near (usedD done (netP c.acc)) k.toNat = ok := by
              unfold okP
              rw [hx, hok, show ((k.toNat : Nat) : Int) = k by omega]
            refine ⟨fun ho => ⟨?_, q4⟩, fun ho => ⟨?_, q4⟩⟩
            · unfold lastP
              rw [e, if_pos ho]
              omega
            · unfold lastP
              rw [e, if_neg (by rw [ho]; decide)]
              exact hb
      · rintro b w3 ⟨rfl, q3⟩
        rw [w64 (by omega) (by omega)]
        refine ⟨⟨by (try dsimp only); omega, by (try dsimp only); omega, ?_, q3⟩, by (try dsimp only); omega⟩
        show _ = lastP _ (k + 1).toNat
        rw [toNat_succ k0]
    · have hkl : k.toNat = l.length := by simp [hsl] at hk; omega
      rw [hkl] at hb
      have hol := (ho.rd ci1 (by decide)).len
      rw [List.length_map, hdl] at hol
      refine OwnF.push ap25 (ho.keepQ q2) rfl rfl (by unfold maxLen; omega) (by omega) fun r43 w23 F' o23 _ st23 => ?_
      rw [w64 (by omega) (by omega)]
      refine ⟨⟨by (try dsimp only); omega, by (try dsimp only); omega, F', ?_, (hf.keep q2).stp st23⟩, by (try dsimp only); omega⟩
      show OwnF w23 F' 3 1 r43 ((pairsP l near (cs.take (i + 1).toNat)).flatMap ci)
      have hstep : stepD l near done c = (best, netP c.acc) := by
        unfold stepD lastOf
        rw [hb]
      unfold pairsP
      rw [toNat_succ i0, htk, pairsD_snoc, hdone, hstep]
      simpa [ci] using o23
  · have : cs.take i.toNat = cs := List.take_of_length_le (by simp [htl] at hi; omega)
    rw [this] at ho
    exact ⟨F, ho, hf⟩

def calmP (l : List Cp) : Prop := ∀ x ∈ l, 0 ≤ x.step ∧ x.step ≤ 1073741824
instance (l : List Cp) : Decidable (calmP l) := by unfold calmP; infer_instance
theorem calmP.i {l : List Cp} (h : calmP l) : ∀ x ∈ l, i64 x.step := fun x hx => by
  have := h x hx
  unfold i64
  omega
theorem calm_c (w : World) (s : Sl) (l : List Cp) (h : Rd w cp 5 s l) (hl : l.length ≤ 1000000) : callC Try.prog 15 #[s.v] (fun (r : Bool) => .bool r) w fun r w' => r = decide (calmP l) ∧ w = w' := by
  have hsl := h.len
  refine D15 _ w _ ?_
  unfold F15
  refine ⟨fun i w' => 0 ≤ i ∧ i ≤ l.length ∧ calmP (l.take i.toNat) ∧ w = w', fun i _ => (l.length - i).toNat, ⟨by omega, by omega, by simp [calmP], rfl⟩, ?_⟩
  rintro i w' ⟨i0, i1, hn, rfl⟩
  refine ⟨fun hi => ?_, fun hi => ?_⟩
  · have hlt : i < l.length := by simpa [hsl] using hi
    obtain ⟨x, hx⟩ := getq i0 hlt
    refine h.ixx i0 hx fun p hat _ => hat.ld (j := 2) rfl (jp.val (decide (¬ (0 ≤ x.step ∧ x.step ≤ 1073741824))) ⟨fun hc => ?_, fun hc => h.ixx i0 hx fun p hat _ => hat.ld (j := 2) rfl ?_⟩ ⟨fun hc => ?_, fun hc => ?_⟩)
    · have : x.step < 0 := of_decide_eq_true hc
      exact (decide_eq_true (by omega)).symm
    · have : ¬ x.step < 0 := of_decide_eq_false hc
      show decide _ = decide _
      rw [decide_eq_decide]
      omega
    · have := of_decide_eq_true hc
      refine ⟨(decide_eq_false fun e => this (e x (List.mem_of_getElem? hx))).symm, rfl⟩
    · have := of_decide_eq_false hc
      rw [w64 (by omega) (by omega)]
      refine ⟨⟨by omega, by omega, ?_, rfl⟩, by (try dsimp only); omega⟩
      rw [toNat_succ i0, take_next hx]
      intro y hy
      rcases List.mem_append.1 hy with e | e
      · exact hn y e
      · rw [List.mem_singleton.1 e]
        exact Decidable.byContradiction this
  · have hge : l.length ≤ i.toNat := by simp [hsl] at hi; omega
    rw [List.take_of_length_le hge] at hn
    exact ⟨(decide_eq_true hn).symm, rfl⟩

def noteP (a s o : Int) : Cp := ⟨a, 5, s, o, -1⟩
def tup (c : Cp) : Int × Int × Int × Int × Int := (c.acc, c.grp, c.step, c.on, c.quote)
theorem note_c (w : World) (a s o : Int) : callC Try.prog 17 #[.int .i64 a, .int .i64 s, .int .i64 o] (fun (r : Int × Int × Int × Int × Int) => .agg #[.int .i64 r.1, .int .i64 r.2.1, .int .i64 r.2.2.1, .int .i64 r.2.2.2.1, .int .i64 r.2.2.2.2]) w fun r w' => r = tup (noteP a s o) ∧ Quiet w w' := by
  refine D17 _ _ _ w _ ?_
  unfold F17
  exact box5 (c := noteP a s o) fun b w' hb q _ _ => ld5 hb.at ⟨rfl, q⟩

/-- three messages in a row of one block -/
theorem rd3 {w : World} {b : Nat} {x y z : Cp} {cs : Array Value} (h : Blk w b 30 cs) (hc : cs = (cp x ++ cp y ++ cp z).toArray) : Rd w cp 5 (⟨some ⟨b, 0, none⟩, 3, 3⟩ : Sl) [x, y, z] := by
  subst hc
  refine ⟨rfl, fun i u hu => ⟨_, rfl, fun j v hv => ?_⟩⟩
  have hj : j < 5 := by
    have := (List.getElem?_eq_some_iff.1 hv).1
    rwa [cp5] at this
  rw [mk_add, mk_add, h.cell]
  match i, hu with
  | 0, hu =>
    cases hu
    match j, hv, hj with
    | 0, hv, _ => exact hv
    | 1, hv, _ => exact hv
    | 2, hv, _ => exact hv
    | 3, hv, _ => exact hv
    | 4, hv, _ => exact hv
  | 1, hu =>
    cases hu
    match j, hv, hj with
    | 0, hv, _ => exact hv
    | 1, hv, _ => exact hv
    | 2, hv, _ => exact hv
    | 3, hv, _ => exact hv
    | 4, hv, _ => exact hv
  | 2, hu =>
    cases hu
    match j, hv, hj with
    | 0, hv, _ => exact hv
    | 1, hv, _ => exact hv
    | 2, hv, _ => exact hv
    | 3, hv, _ => exact hv
    | 4, hv, _ => exact hv
  | i + 3, hu => simp at hu

theorem small_c (w : World) : callC Try.prog 7 #[] (fun (r : Bool) => .bool r) w fun r w' => r = true ∧ Quiet w w' := by
  refine D7 w _ ?_
  unfold F7
  refine (note_c _ _ _ _).use ?_
  rintro r1 w1 ⟨rfl, q1⟩
  refine (note_c _ _ _ _).use ?_
  rintro r2 w2 ⟨rfl, q2⟩
  refine (note_c _ _ _ _).use ?_
  rintro r3 w3 ⟨rfl, q3⟩
  refine nwL fun b4 w4 hb4 q4 _ _ _ => ?_
  have hk : Rd w4 cp 5 (⟨some ⟨b4, 0, none⟩, 3, 3⟩ : Sl) [noteP 1 10 (-1), noteP 1 12 (-1), noteP 2 13 0] := rd3 hb4 rfl
  have iK : ∀ x ∈ [noteP 1 10 (-1), noteP 1 12 (-1), noteP 2 13 0], i64 x.step := by
    intro x hx
    simp at hx
    rcases hx with rfl | rfl | rfl <;> exact ⟨by decide, by decide⟩
  have iN : ∀ {a s o : Int}, -9223372036854775808 ≤ s → s ≤ 9223372036854775807 → i64 (noteP a s o).step := fun h1 h2 => ⟨h1, h2⟩
  refine (note_c _ _ _ _).use ?_
  rintro r5 w5 ⟨rfl, q5⟩
  refine (match_c w5 _ _ (noteP 14 14 (-1)) 9 (hk.keepQ q5) (by decide) iK (iN (by decide) (by decide)) (by decide)).use ?_
  rintro r6 w6 ⟨hr6, q6⟩
  refine (note_c _ _ _ _).use ?_
  rintro r7 w7 ⟨rfl, q7⟩
  refine (match_c w7 _ _ (noteP 14 14 (-1)) 1 (hk.keepQ ((q5.tr q6).tr q7)) (by decide) iK (iN (by decide) (by decide)) (by decide)).use ?_
  rintro r8 w8 ⟨hr8, q8⟩
  refine (note_c _ _ _ _).use ?_
  rintro r9 w9 ⟨rfl, q9⟩
  have q49 := (((q5.tr q6).tr q7).tr q8).tr q9
  refine (match_c w9 _ _ (noteP 13 14 (-1)) 9 (hk.keepQ q49) (by decide) iK (iN (by decide) (by decide)) (by decide)).use ?_
  rintro r10 w10 ⟨hr10, q10⟩
  refine (note_c _ _ _ _).use ?_
  rintro r11 w11 ⟨rfl, q11⟩
  refine (note_c _ _ _ _).use ?_
  rintro r12 w12 ⟨rfl, q12⟩
  refine (note_c _ _ _ _).use ?_
  rintro r13 w13 ⟨rfl, q13⟩
  refine nwL fun b14 w14 hb14 q14 _ _ _ => ?_
  have q414 := (((q49.tr q10).tr q11).tr q12).tr (q13.tr q14)
  have hc14 : Rd w14 cp 5 (⟨some ⟨b14, 0, none⟩, 3, 3⟩ : Sl) [noteP 2 14 (-1), noteP 14 14 (-1), noteP 2 15 (-1)] := rd3 hb14 rfl
  have iC : ∀ x ∈ [noteP 2 14 (-1), noteP 14 14 (-1), noteP 2 15 (-1)], i64 x.step := by
    intro x hx
    simp at hx
    rcases hx with rfl | rfl | rfl <;> exact ⟨by decide, by decide⟩
  refine rn_upto ap22 hc14 (Nat.le_refl 3) (by decide) (by decide) fun r15 h15 _ _ => ?_
  refine (pairs_c w14 _ _ _ _ 9 (hk.keepQ q414) h15 (by decide) (by decide) iK (fun x hx => iC x (List.mem_of_mem_take hx)) (by decide)).use ?_
  rintro r16 w16 ⟨F16, o16, f16⟩
  refine nwL fun b17 w17 hb17 q17 _ _ _ => ?_
  refine (ints_c w17 _ _ _ [1, 0] ((o16.keepQ q17).rd ci1 (by decide)) (rdI hb17 rfl rfl) (by rw [pairsP_len]; decide)).use ?_
  rintro r18 w18 ⟨rfl, q18⟩
  have q418 := ((q414.tr f16.q).tr q17).tr q18
  have q1418 := (f16.q.tr q17).tr q18
  refine jn.mk (fun c w' => c = true ∧ Quiet w18 w') ⟨fun hc => ?_, fun hc => ?_⟩ ?_
  · refine (pairs_c w18 _ _ _ _ 9 (hk.keepQ q418) (hc14.keepQ q1418) (by decide) (by decide) iK iC (by decide)).use ?_
    rintro r21 w19 ⟨F19, o19, f19⟩
    refine nwL fun b22 w20 hb22 q20 _ _ _ => ?_
    refine (ints_c w20 _ _ _ [1, 0, -1] ((o19.keepQ q20).rd ci1 (by decide)) (rdI hb22 rfl rfl) (by rw [pairsP_len]; decide)).use ?_
    rintro r23 w21 ⟨rfl, q21⟩
    exact ⟨by decide, (f19.q.tr q20).tr q21⟩
  · exact absurd hc (by decide)
  rintro c w22 ⟨rfl, q22⟩
  subst hr6 hr8 hr10
  refine jn.mk (fun c w' => c = true ∧ Quiet w18 w') ?_ ?_
  · show tk w22 _
    unfold tk
    have qd : Quiet w18 w22.drew := q22.tr (Only.drew _ _)
    refine ⟨fun _ => ⟨fun _ => ⟨fun _ => ⟨fun _ => ⟨fun _ => ?_, fun h => absurd h (by decide)⟩, fun h => absurd h (by decide)⟩, fun h => absurd h (by decide)⟩, fun h => absurd h (by decide)⟩, fun h => absurd h (by decide)⟩
    have hkd := hk.keepQ (q418.tr qd)
    refine hkd.ixx (i := 0) (by decide) rfl fun p hat _ => ld5 hat (hkd.ixx (i := 2) (by decide) rfl fun p' hat' _ => ld5 hat' ((score_c _ (noteP 1 10 (-1)) (noteP 2 13 0)).use ?_))
    rintro r w24 ⟨rfl, q24⟩
    exact ⟨by decide, qd.tr q24⟩
  · rintro c w25 ⟨rfl, q25⟩
    exact ⟨rfl, (q1.tr ((q2.tr q3).tr q4)).tr (q418.tr q25)⟩
end Go.Proofs.Ythnebjgmhdilbaa
