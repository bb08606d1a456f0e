import Derived.Test.YtfmimbcljhjflaaVr
import Derived.Test.YtfmimbcljhjflaaLaw
namespace Go.Proofs.Ytfmimbcljhjflaa
open Go.Dec Go.RowKit
set_option maxHeartbeats 400000

theorem small_c (w : World) : callC Try.prog 7 #[] (fun (r : Bool) => .bool r) w fun r w' => r = true ∧ Quiet w w' := by
  refine D7 w _ ?_
  unfold F7
  refine (new_c w).use ?_
  rintro r w1 ⟨vb, rfl, h1, q1, hge, hlt⟩
  refine ⟨fun hc => by simp at hc, fun _ => ?_⟩
  refine (key_c w1 _ vb _ h1 (by decide)).use ?_
  rintro r w2 ⟨rfl, F2, h2, s2⟩
  refine (key_c w2 _ vb _ h2 (by decide)).use ?_
  rintro r w3 ⟨rfl, F3, h3, s3⟩
  refine (lock_c w3 _ vb _ 1 _ h3 (by decide)).use ?_
  rintro r w4 ⟨rfl, F4, h4, s4⟩
  refine (lock_c w4 _ vb _ 2 _ h4 (by decide)).use ?_
  rintro r w5 ⟨rfl, F5, h5, s5⟩
  have ok5 : (VS.lock (VS.lock (VS.key (VS.key ⟨[], []⟩)) 1 (ByteArray.mk #[97])).1 2 (ByteArray.mk #[98])).1.ok := by unfold VS.ok; decide
  refine (open_c w5 _ vb _ 1 0 h5 ok5).use ?_
  rintro r w6 ⟨rfl, q6⟩
  have h6 := h5.keepQ q6
  refine (open_c w6 _ vb _ 0 0 h6 ok5).use ?_
  rintro r w7 ⟨rfl, q7⟩
  have h7 := h6.keepQ q7
  refine (open_c w7 _ vb _ 1 1 h7 ok5).use ?_
  rintro r w8 ⟨rfl, q8⟩
  have h8 := h7.keepQ q8
  refine (destroy_c w8 _ vb _ 1 h8 (by decide)).use ?_
  rintro r w9 ⟨rfl, F9, h9, s9⟩
  refine (open_c w9 _ vb _ 1 0 h9 (by unfold VS.ok; decide)).use ?_
  rintro r w10 ⟨rfl, q10⟩
  have h10 := h9.keepQ q10
  refine (lock_c w10 _ vb _ 1 _ h10 (by decide)).use ?_
  rintro r w11 ⟨rfl, F11, h11, s11⟩
  refine jn.in_ ⟨fun _ => ?_, fun hc => absurd hc (by first | decide | (simp only [beqS_eq]; decide))⟩
  refine (destroy_c w11 _ vb _ 1 h11 (by decide)).use ?_
  rintro r w12 ⟨rfl, F12, h12, s12⟩
  refine jn.in_ ⟨fun _ => ?_, fun hc => absurd hc (by first | decide | (simp only [beqS_eq]; decide))⟩
  refine (keys_c w12 _ vb _ h12).use ?_
  rintro r w13 ⟨rfl, rfl⟩
  refine jn.in_ ⟨fun _ => ?_, fun hc => absurd hc (by first | decide | (simp only [beqS_eq]; decide))⟩
  refine (boxes_c w12 _ vb _ h12).use ?_
  rintro r w14 ⟨rfl, rfl⟩
  refine ⟨by decide, ?_⟩
  have st := ((((((((s2.trans s3).trans s4).trans s5).trans (Stp.quiet q6)).trans (Stp.quiet q7)).trans (Stp.quiet q8)).trans s9).trans (Stp.quiet q10)).trans (s11.trans s12)
  exact q1.then_ st.only fun b hb e => by omega

def RS.doo (V : RS) (o : OpR) : RS × Int × ByteArray × Int :=
  if o.kind = 0 then (V.key, (V.good.length : Int), e0, 0)
  else if o.kind = 1 then ((V.lock o.key o.text).1, (V.lock o.key o.text).2.1, e0, (V.lock o.key o.text).2.2)
  else if o.kind = 2 then (V, 0, (V.opn o.key o.box).1, (V.opn o.key o.box).2)
  else if o.kind = 3 then ((V.destroy o.key).1, 0, e0, (V.destroy o.key).2)
  else (V, 0, e0, 0)
theorem RS.doo0 {V : RS} {o : OpR} (h : o.kind = 0) : V.doo o = (V.key, (V.good.length : Int), e0, 0) := by simp [RS.doo, h]
theorem RS.doo1 {V : RS} {o : OpR} (h : o.kind = 1) : V.doo o = ((V.lock o.key o.text).1, (V.lock o.key o.text).2.1, e0, (V.lock o.key o.text).2.2) := by simp [RS.doo, h]
theorem RS.doo2 {V : RS} {o : OpR} (h : o.kind = 2) : V.doo o = (V, 0, (V.opn o.key o.box).1, (V.opn o.key o.box).2) := by simp [RS.doo, h]
theorem RS.doo3 {V : RS} {o : OpR} (h : o.kind = 3) : V.doo o = ((V.destroy o.key).1, 0, e0, (V.destroy o.key).2) := by simp [RS.doo, h]
theorem RS.doo4 {V : RS} {o : OpR} (h0 : o.kind ≠ 0) (h1 : o.kind ≠ 1) (h2 : o.kind ≠ 2) (h3 : o.kind ≠ 3) : V.doo o = (V, 0, e0, 0) := by simp [RS.doo, h0, h1, h2, h3]

theorem rdo_c (w : World) (F : Nat → Prop) (vb : Nat) (R : RS) (o : OpR) (h : IsR w F vb R) (hok : R.texts.length = R.of_.length) (hn : R.good.length ≤ 100000) (hn' : R.of_.length ≤ 100000) :
    callC Try.prog 12 #[.pointer (some ⟨vb, 0, none⟩), .agg #[.int .i64 o.kind, .int .i64 o.key, .int .i64 o.box, .string o.text]] (fun (r : Int × ByteArray × Int) => .agg #[.int .i64 r.1, .string r.2.1, .int .i64 r.2.2]) w fun r w' =>
      r = (R.doo o).2 ∧ ∃ F', IsR w' F' vb (R.doo o).1 ∧ Stp F w F' w' := by
  refine D12 _ _ _ _ _ w _ ?_
  unfold F12
  refine nwL fun b1 w1 hb1 hq1 hg1 hs1 hl1 => nwL fun b2 w2 hb2 hq2 hg2 hs2 hl2 => ?_
  have hb1' := hb1.keepQ hq2
  have hq : Quiet w w2 := (hq1.trans hq2).mono fun _ _ e => e.elim id id
  have h2 := h.keepQ hq
  have hlt := h.lt
  -- what stands behind a call: the result laid into its block, and read out again
  have fin : ∀ (V' : RS) (F' : Nat → Prop) (w3 : World) (n : Int) (t : ByteArray) (e : Int), IsR w3 F' vb V' → Stp F w2 F' w3 → (n, t, e) = (R.doo o).2 → V' = (R.doo o).1 →
      st (Addr.mk b2 0 none) [.int .i64 n, .string t, .int .i64 e] w3 fun w4 => ld (Value.int .i64) ((Addr.mk b2 0 none).add 0) w4 fun x7 => ld Value.string ((Addr.mk b2 0 none).add 1) w4 fun x8 => ld (Value.int .i64) ((Addr.mk b2 0 none).add 2) w4 fun x9 =>
        ((x7, x8, x9) : Int × ByteArray × Int) = (R.doo o).2 ∧ ∃ F', IsR w4 F' vb (R.doo o).1 ∧ Stp F w F' w4 := by
    intro V' F' w3 n t e hv hst hr hV
    subst hV
    have hd : ∀ b, F' b → b ≠ b2 := fun b hb e => by
      subst e
      rcases hst.sub b hb with e | e
      · have := hlt b e
        omega
      · omega
    have hb : Blk w3 b2 31 #[.int .i64 0, .string (ByteArray.mk #[]), .int .i64 0] := hb2.keep hst.only fun e => by have := hlt b2 e; omega
    refine hb.st0 (by simp) fun w4 hb4 on4 hs4 => hb4.ld rfl (hb4.ld rfl (hb4.ld rfl ⟨hr, F', hv.keep on4 fun b hF e => hd b hF e, ?_⟩))
    have hst' := (Stp.quiet (F := F) hq).trans hst
    refine ⟨hst'.only.then_ on4 fun b hlt e => by omega, fun b hb => ?_⟩
    rw [hs4]
    exact hst'.sub b hb
  refine hb1'.ld rfl ⟨fun hk => ?_, fun hk => ?_⟩
  · have hk' : o.kind = 0 := by simpa using hk
    refine (rkey_c w2 F vb R h2 hn).use ?_
    rintro r w3 ⟨rfl, F', hv, hst⟩
    exact fin _ F' w3 _ _ _ hv hst (by rw [RS.doo0 hk']; rfl) (by rw [RS.doo0 hk'])
  have k0 : o.kind ≠ 0 := by simpa using hk
  refine ⟨fun hk => ?_, fun hk => ?_⟩
  · have hk' : o.kind = 1 := by simpa using hk
    refine hb1'.ld rfl (hb1'.ld rfl ?_)
    refine (rlock_c w2 F vb R o.key o.text h2 hn' (by omega)).use ?_
    rintro r w3 ⟨rfl, F', hv, hst⟩
    exact fin _ F' w3 _ _ _ hv hst (by rw [RS.doo1 hk']; rfl) (by rw [RS.doo1 hk'])
  have k1 : o.kind ≠ 1 := by simpa using hk
  refine ⟨fun hk => ?_, fun hk => ?_⟩
  · have hk' : o.kind = 2 := by simpa using hk
    refine hb1'.ld rfl (hb1'.ld rfl ?_)
    refine (ropen_c w2 F vb R o.key o.box h2 hok).use ?_
    rintro r w3 ⟨rfl, rfl⟩
    exact fin _ F w2 _ _ _ h2 (Stp.refl _ _) (by rw [RS.doo2 hk']) (by rw [RS.doo2 hk'])
  have k2 : o.kind ≠ 2 := by simpa using hk
  refine ⟨fun hk => ?_, fun hk => ?_⟩
  · have hk' : o.kind = 3 := by simpa using hk
    refine hb1'.ld rfl ?_
    refine (rdestroy_c w2 F vb R o.key h2).use ?_
    rintro r w3 ⟨rfl, F', hv, hst⟩
    exact fin _ F' w3 _ _ _ hv hst (by rw [RS.doo3 hk']; rfl) (by rw [RS.doo3 hk'])
  have k3 : o.kind ≠ 3 := by simpa using hk
  exact fin _ F w2 _ _ _ h2 (Stp.refl _ _) (by rw [RS.doo4 k0 k1 k2 k3]; rfl) (by rw [RS.doo4 k0 k1 k2 k3])


/-! ### the two vaults are alike -/
structure Sim (V : VS) (R : RS) : Prop where
  good : R.good = V.good
  of_ : R.of_ = V.boxes.map (·.1)
  len : R.texts.length = R.of_.length
  text : ∀ (n : Nat) b, V.boxes[n]? = some b → V.gd b.1 = true → R.texts[n]? = some b.2
  ok : V.ok
theorem Sim.has {V : VS} {R : RS} (h : Sim V R) (k : Int) : R.state k = if V.has k = true then (if V.gd k = true then 1 else 2) else 0 := by
  unfold RS.state VS.has VS.gd
  rw [h.good]
  by_cases hk : k < 0 ∨ (V.good.length : Int) ≤ k
  · rw [if_pos hk, if_neg]
    simp; omega
  · have hh : (decide (0 ≤ k) && decide (k < (V.good.length : Int))) = true := by simp; omega
    rw [if_neg hk, if_pos hh]

theorem gd_set {V : VS} {k j : Int} (hk : V.has k = true) (hj : V.has j = true) : (({ V with good := V.good.set k.toNat false } : VS).gd j = true) ↔ (j ≠ k ∧ V.gd j = true) := by
  obtain ⟨k0, k1⟩ := has_bd hk
  obtain ⟨j0, j1⟩ := has_bd hj
  unfold VS.gd
  simp only [List.getD_eq_getElem?_getD, List.getElem?_set]
  by_cases e : k.toNat = j.toNat
  · have : k = j := by omega
    subst this
    simp
    split <;> rfl
  · have : j ≠ k := fun h => e (by rw [h])
    simp [e, this]

theorem sim_doo {V : VS} {R : RS} (h : Sim V R) (o : OpR) : (V.doo o).2 = (R.doo o).2 ∧ Sim (V.doo o).1 (R.doo o).1 ∧ (V.doo o).1.good.length ≤ V.good.length + 1 ∧ (V.doo o).1.boxes.length ≤ V.boxes.length + 1 := by
  obtain ⟨hg, hof, hlen, htx, hok⟩ := h
  have hst := Sim.has ⟨hg, hof, hlen, htx, hok⟩
  by_cases k0 : o.kind = 0
  · rw [VS.doo0 k0, RS.doo0 k0]
    refine ⟨by simp [hg], ⟨by simp [VS.key, RS.key, hg], hof, hlen, ?_, ?_⟩, by simp [VS.key], by simp [VS.key]⟩
    · intro n b hb hgd
      have hbk := hok b (List.mem_of_getElem? hb)
      obtain ⟨b0, b1⟩ := has_bd hbk
      refine htx n b hb ?_
      simp only [VS.gd, VS.key, List.getD_eq_getElem?_getD] at hgd ⊢
      rwa [List.getElem?_append_left (by omega)] at hgd
    · intro b hb
      obtain ⟨b0, b1⟩ := has_bd (hok b hb)
      simp [VS.has, VS.key]; omega
  by_cases k1 : o.kind = 1
  · rw [VS.doo1 k1, RS.doo1 k1]
    have hs := hst o.key
    unfold VS.lock RS.lock
    by_cases c1 : V.has o.key = true
    · by_cases c2 : V.gd o.key = true
      · rw [if_pos c1, if_pos c2] at hs
        simp only [c1, c2, hs, if_true]
        have n0 : ¬ ((1 : Int) = 0) := by decide
        have n2 : ¬ ((1 : Int) = 2) := by decide
        simp only [if_neg n0, if_neg n2]
        refine ⟨by simp [hof], ⟨hg, by simp [hof], by simp [hlen], ?_, ?_⟩, by simp, by simp⟩
        · intro n b hb hgd
          have hl : R.texts.length = V.boxes.length := by rw [hlen, hof]; simp
          rcases Nat.lt_or_ge n V.boxes.length with hn | hn
          · rw [List.getElem?_append_left hn] at hb
            rw [List.getElem?_append_left (by omega)]
            exact htx n b hb hgd
          · rw [List.getElem?_append_right hn] at hb
            rw [List.getElem?_append_right (by omega), hl]
            cases hm : n - V.boxes.length with
            | zero => rw [hm] at hb; simp at hb ⊢; rw [← hb]
            | succ m => rw [hm] at hb; simp at hb
        · intro b hb
          rcases List.mem_append.1 hb with hb | hb
          · exact hok b hb
          · simp at hb
            subst hb
            exact c1
      · rw [if_pos c1, if_neg c2] at hs
        simp only [c1, c2, hs, if_true]
        have n0 : ¬ ((2 : Int) = 0) := by decide
        simp only [if_neg n0]
        exact ⟨by simp, ⟨hg, hof, hlen, htx, hok⟩, by simp, by simp⟩
    · rw [if_neg c1] at hs
      simp only [c1, hs, if_true]
      exact ⟨by simp, ⟨hg, hof, hlen, htx, hok⟩, by simp, by simp⟩
  by_cases k2 : o.kind = 2
  · rw [VS.doo2 k2, RS.doo2 k2]
    refine ⟨?_, ⟨hg, hof, hlen, htx, hok⟩, by simp, by simp⟩
    have e : V.opn o.key o.box = R.opn o.key o.box := by
      unfold VS.opn RS.opn
      have hl : R.of_.length = V.boxes.length := by rw [hof]; simp
      rw [hl]
      by_cases c : o.box < 0 ∨ (V.boxes.length : Int) ≤ o.box
      · rw [if_pos c, if_pos c]
      · rw [if_neg c, if_neg c]
        have hx : V.boxes[o.box.toNat]? = some (V.boxes[o.box.toNat]'(by omega)) := List.getElem?_eq_getElem (by omega)
        generalize V.boxes[o.box.toNat]'(by omega) = x at hx
        have ho : R.of_.getD o.box.toNat 0 = x.1 := by rw [hof]; simp [List.getD, hx]
        rw [hx, ho, hst]
        simp only
        have hbk := hok x (List.mem_of_getElem? hx)
        by_cases c1 : x.1 = o.key
        · rw [← c1]
          simp only [hbk, if_true, true_and]
          by_cases c2 : V.gd x.1 = true
          · simp only [c2, if_true]
            have := htx _ _ hx c2
            simp [List.getD, this]
          · simp [c2]
        · simp [c1]
    rw [e]
  by_cases k3 : o.kind = 3
  · rw [VS.doo3 k3, RS.doo3 k3]
    have hs := hst o.key
    unfold VS.destroy RS.destroy
    by_cases c1 : V.has o.key = true
    · by_cases c2 : V.gd o.key = true
      · rw [if_pos c1, if_pos c2] at hs
        simp only [c1, c2, hs, if_true]
        have n0 : ¬ ((1 : Int) = 0) := by decide
        have n2 : ¬ ((1 : Int) = 2) := by decide
        simp only [if_neg n0, if_neg n2]
        have hw : ∀ b, (wipe o.key b).1 = b.1 := fun b => by unfold wipe; split <;> rfl
        refine ⟨trivial, ⟨by simp [hg], ?_, hlen, ?_, ?_⟩, by simp, by simp⟩
        · rw [hof, List.map_map]
          exact List.map_congr_left fun b _ => (hw b).symm
        · intro n b hb hgd
          simp only [List.getElem?_map, Option.map_eq_some_iff] at hb
          obtain ⟨b', hb', rfl⟩ := hb
          rw [hw] at hgd
          have hbk := hok b' (List.mem_of_getElem? hb')
          have hh := (gd_set c1 hbk).1 hgd
          have : wipe o.key b' = b' := by unfold wipe; rw [if_neg hh.1]
          rw [this]
          exact htx n b' hb' hh.2
        · intro b hb
          obtain ⟨b', hb', rfl⟩ := List.mem_map.1 hb
          have := hok b' hb'
          simpa [VS.has, hw] using this
      · rw [if_pos c1, if_neg c2] at hs
        simp only [c1, c2, hs, if_true]
        have n0 : ¬ ((2 : Int) = 0) := by decide
        simp only [if_neg n0]
        exact ⟨by simp, ⟨hg, hof, hlen, htx, hok⟩, by simp, by simp⟩
    · rw [if_neg c1] at hs
      simp only [c1, hs, if_true]
      exact ⟨by simp, ⟨hg, hof, hlen, htx, hok⟩, by simp, by simp⟩
  rw [VS.doo4 k0 k1 k2 k3, RS.doo4 k0 k1 k2 k3]
  exact ⟨rfl, ⟨hg, hof, hlen, htx, hok⟩, by simp, by simp⟩

/-- a loaded struct of a slice, behind a step that leaves the slice's blocks alone -/
theorem AtC.keep {w w' : World} {F : Nat → Prop} {p : Addr} {l : List Value} (h : AtC w p l) (ho : Only F w w') (hF : ¬ F p.block) : AtC w' p l := fun j u hu => ho.cell (by rw [add_block]; exact hF) (h j u hu)

structure TI (W : World) (B : Nat) (l : List OpR) (vb rb : Nat) (i : Int) (w : World) : Prop where
  ex : ∃ (F G : Nat → Prop) (V : VS) (R : RS), IsV w F vb V ∧ IsR w G rb R ∧ Sim V R ∧ V.good.length ≤ i.toNat ∧ V.boxes.length ≤ i.toNat ∧ (∀ b, F b → B ≤ b) ∧ (∀ b, G b → B ≤ b) ∧ (∀ b, F b → ¬ G b)
  i0 : 0 ≤ i
  i1 : i ≤ l.length
  bel : Below B W w

theorem tells (W : World) (s : Sl) (l : List OpR) (h : Rd W co 4 s l) (hB : ∀ ad, s.a = some ad → 0 < l.length → ad.block < W.heap.size) (hl : l.length ≤ maxLen) :
    callC Try.prog 3 #[s.v] (fun (r : Bool) => .bool r) W fun r w' => r = true ∧ Below W.heap.size W w' := by
  have hl' : l.length ≤ 9223372036854775807 := by unfold maxLen at hl; omega
  refine D3 _ W _ ?_
  unfold F3
  refine (small_c W).use ?_
  rintro r w1 ⟨rfl, q1⟩
  refine (few_c w1 s l 60 (h.keepQ q1) (by decide) (by decide) hl').use ?_
  rintro r w2 ⟨hfew, rfl⟩
  have b1 : Below W.heap.size W w1 := q1.below (Nat.le_refl _) (fun _ e => e.elim)
  refine ⟨fun _ => ⟨rfl, b1⟩, fun hc => ?_⟩
  obtain ⟨h60, _⟩ := hfew (by simpa using hc)
  refine (new_c w1).use ?_
  rintro r w3 ⟨vb, rfl, hv, q3, gv, lv⟩
  refine (rnew_c w3).use ?_
  rintro r w4 ⟨rb, rfl, hr, q4, gr, lr⟩
  refine ⟨fun hc => by simp at hc, fun _ => ?_⟩
  have hs1 := b1.size
  have hs3 := q3.size
  have b4 : Below W.heap.size W w4 := (b1.trans (q3.below hs1 (fun _ e => e.elim))).trans (q4.below (Nat.le_trans hs1 hs3) (fun _ e => e.elim))
  refine ⟨TI W W.heap.size l vb rb, fun i _ => (l.length - i).toNat, ⟨⟨_, _, _, _, hv.keepQ q4, hr, ⟨rfl, rfl, rfl, fun n b hb => by simp at hb, fun b hb => by simp at hb⟩, by simp, by simp, fun b e => by omega, fun b e => by omega, fun b e e' => by omega⟩, by decide, by omega, b4⟩, ?_⟩
  rintro i w5 ⟨⟨F, G, V, R, iv, ir, sim, g1, x1, fB, gB, dis⟩, i0, i1, bel⟩
  have hsl := h.len
  refine ⟨fun hi => ?_, fun hi => ⟨rfl, bel⟩⟩
  have hlt : i < l.length := by simpa [hsl] using hi
  have bel5 : Below W.heap.size W w5.drew := bel.drew
  have rd6 := h.below bel5 hB
  have iv6 : IsV w5.drew F vb V := iv.keepQ (Only.drew _ _)
  have ir6 : IsR w5.drew G rb R := ir.keepQ (Only.drew _ _)
  refine jn.mk (fun c w' => c = false ∧ TI W W.heap.size l vb rb (i + 1) w') ?_ ?_
  · show tk w5 _
    unfold tk
    refine rd6.ix i0 hlt fun p x hx hat _ => hat.ld (j := 0) rfl (hat.ld (j := 1) rfl (hat.ld (j := 2) rfl (hat.ld (j := 3) rfl ?_)))
    refine rd6.ix i0 hlt fun p' x' hx' hat' hp' => hat'.ld (j := 0) rfl (hat'.ld (j := 1) rfl (hat'.ld (j := 2) rfl (hat'.ld (j := 3) rfl ?_)))
    rw [hx] at hx'
    injection hx' with hx'
    subst hx'
    obtain ⟨ad, had, rfl⟩ := hp'
    have hpb : ad.block < W.heap.size := hB ad had (by omega)
    refine (do_c _ F vb V x iv6 sim.ok (by omega) (by omega)).use ?_
    rintro r w7 ⟨rfl, F', iv7, st7⟩
    have at7 := AtC.keep hat' st7.only (by rw [add_block]; intro e; have := fB _ e; omega)
    refine ⟨⟨at7 0 _ rfl, at7 1 _ rfl, at7 2 _ rfl, at7 3 _ rfl⟩, ?_⟩
    have hFs : ∀ b, F b → b < w5.drew.heap.size := iv6.lt
    have ir7 : IsR w7 G rb R := ir6.keep st7.only fun b hg hf => dis b hf hg
    have hlen : R.of_.length = V.boxes.length := by rw [sim.of_]; simp
    refine (rdo_c w7 G rb R x ir7 sim.len (by rw [sim.good]; omega) (by omega)).use ?_
    rintro r w8 ⟨rfl, G', ir8, st8⟩
    obtain ⟨e1, sim', l1, l2⟩ := sim_doo sim x
    rw [← e1]
    have iv8 : IsV w8 F' vb (V.doo x).1 := iv7.keep st8.only fun b hf hg => by
      rcases st7.sub b hf with e | e
      · exact dis b e hg
      · have := ir6.lt b hg
        omega
    have ok8 : TI W W.heap.size l vb rb (i + 1) w8 := by
      have s5 := bel5.size
      have s7 := st7.only.size
      refine ⟨⟨F', G', _, _, iv8, ir8, sim', by omega, by omega, fun b e => ?_, fun b e => ?_, fun b e e' => ?_⟩, by omega, by omega, ?_⟩
      · rcases st7.sub b e with e | e
        · exact fB b e
        · omega
      · rcases st8.sub b e with e | e
        · exact gB b e
        · omega
      · have := iv7.lt b e
        rcases st8.sub b e' with e' | e'
        · rcases st7.sub b e with e | e
          · exact dis b e e'
          · have := ir6.lt b e'
            omega
        · omega
      · exact (bel5.trans (Quiet.stp_below st7 fB s5)).trans (Quiet.stp_below st8 gB (Nat.le_trans s5 s7))
    have gl : (R.doo x).1.good.length = (V.doo x).1.good.length := by rw [sim'.good]
    have bl : (R.doo x).1.of_.length = (V.doo x).1.boxes.length := by rw [sim'.of_]; simp
    obtain ⟨gs, os, ts, hb, hgo, hoo, _⟩ := ir8.ex
    have lgs := (hgo.rd cb1 (by decide)).len
    have los := (hoo.rd ci1 (by decide)).len
    refine ⟨fun hc => by simp [beqS_eq] at hc, fun _ => ?_⟩
    refine nn_ (hb.ld rfl ?_)
    refine (keys_c w8 F' vb _ iv8).use ?_
    rintro r w9 ⟨rfl, rfl⟩
    refine ⟨hb.ld0' rfl, fun hc => ?_, fun _ => ?_⟩
    · simp [lgs, gl] at hc
    · refine nn_ (hb.ld rfl ?_)
      refine (boxes_c w8 F' vb _ iv8).use ?_
      rintro r w10 ⟨rfl, rfl⟩
      refine ⟨hb.ld0' rfl, hb.ld0' rfl, ?_, ok8⟩
      simp [los, bl]
  · rintro c w' ⟨rfl, hT⟩
    refine ⟨fun hc => by simp at hc, fun _ => ?_⟩
    have := hT.i1
    rw [w64 (by omega) (by omega)]
    exact ⟨hT, by dsimp only; omega⟩
end Go.Proofs.Ytfmimbcljhjflaa
