import Derived.Test.YtfmimbcljhjflaaVs
import Derived.Test.YtfmimbcljhjflaaSep
namespace Go.Proofs.Ytfmimbcljhjflaa
open Go.Dec Go.RowKit
set_option maxHeartbeats 400000

theorem ap_int : appOK Try.prog 38 3 1 8 = true := by kernel_rfl
theorem ap_str : appOK Try.prog 39 9 1 16 = true := by kernel_rfl

/-! ### what has been locked, and destroyed -/
structure OInv (V : VS) (texts : List ByteArray) (gone : List Int) : Prop where
  ok : V.ok
  tl : texts.length = V.boxes.length
  tx : ∀ (n : Nat) b, V.boxes[n]? = some b → V.gd b.1 = true → texts[n]? = some b.2
  gn : ∀ k, V.has k = true → (k ∈ gone ↔ V.gd k = false)
  gh : ∀ k ∈ gone, V.has k = true
def VS.ks (V : VS) : List Int := V.boxes.map (·.1)
theorem VS.ks_len (V : VS) : V.ks.length = V.boxes.length := by simp [VS.ks]
theorem gd_false {V : VS} {k : Int} : V.gd k = false ↔ ¬ V.gd k = true := by simp

theorem oinv_doo {V : VS} {texts : List ByteArray} {gone : List Int} (h : OInv V texts gone) (o : OpR) :
    OInv (V.doo o).1 (if o.kind = 1 ∧ (V.doo o).2.2.2 = 0 then texts ++ [o.text] else texts) (if o.kind = 3 ∧ (V.doo o).2.2.2 = 0 then gone ++ [o.key] else gone) ∧
    (V.doo o).1.ks = (if o.kind = 1 ∧ (V.doo o).2.2.2 = 0 then V.ks ++ [o.key] else V.ks) ∧
    (o.kind = 1 → (V.doo o).2.2.2 = 0 → (V.doo o).2.1 = V.boxes.length) := by
  obtain ⟨hok, tl, tx, gn, gh⟩ := h
  have hok' := (ok_doo hok o).1
  have h0 : OInv V texts gone := ⟨hok, tl, tx, gn, gh⟩
  by_cases k0 : o.kind = 0
  · have n1 : ¬ o.kind = 1 := by omega
    have n3 : ¬ o.kind = 3 := by omega
    simp only [n1, n3, false_and, if_false]
    rw [VS.doo0 k0] at hok' ⊢
    have gk : ∀ k, V.has k = true → V.key.gd k = V.gd k := fun k hk => by
      obtain ⟨b0, b1⟩ := has_bd hk
      simp only [VS.gd, VS.key, List.getD_eq_getElem?_getD]
      rw [List.getElem?_append_left (by omega)]
    have hk : ∀ k, V.key.has k = true → V.has k = true ∨ k = V.good.length := fun k hk => by
      simp [VS.has, VS.key] at hk ⊢; omega
    have hm : ∀ k, V.has k = true → V.key.has k = true := fun k hk => by
      simp [VS.has, VS.key] at hk ⊢; omega
    refine ⟨⟨hok', tl, fun n b hb hg => tx n b hb (by rw [← gk _ (hok b (List.mem_of_getElem? hb))]; exact hg), fun k hh => ?_, fun k hk' => hm k (gh k hk')⟩, rfl, fun e => e.elim⟩
    rcases hk k hh with e | e
    · rw [gk k e]
      exact gn k e
    · have e1 : V.key.gd k = true := by simp [VS.gd, VS.key, e, List.getD_eq_getElem?_getD]
      rw [e1]
      refine ⟨fun hg => ?_, fun c => by cases c⟩
      have := has_bd (gh k hg)
      omega
  by_cases k1 : o.kind = 1
  · have n3 : ¬ o.kind = 3 := by omega
    simp only [n3, false_and, if_false, k1, true_and]
    rw [VS.doo1 k1] at hok' ⊢
    unfold VS.lock at hok' ⊢
    by_cases c1 : V.has o.key = true
    · by_cases c2 : V.gd o.key = true
      · simp only [c1, c2, if_true] at hok' ⊢
        refine ⟨⟨hok', by simp [tl], fun n b hb hg => ?_, gn, gh⟩, by simp [VS.ks], fun _ _ => trivial⟩
        rcases Nat.lt_or_ge n V.boxes.length with hn | hn
        · rw [List.getElem?_append_left hn] at hb
          rw [List.getElem?_append_left (by omega)]
          exact tx n b hb hg
        · rw [List.getElem?_append_right hn] at hb
          rw [List.getElem?_append_right (by omega), tl]
          cases hm : n - V.boxes.length with
          | zero => rw [hm] at hb; simp at hb ⊢; rw [← hb]
          | succ m => rw [hm] at hb; simp at hb
      · have : ¬ ((13 : Int) = 0) := by decide
        simp only [c1, c2, if_true, this] at hok' ⊢
        exact ⟨by simpa using h0, by simp [this], fun _ e => absurd e (by simp)⟩
    · have : ¬ ((4 : Int) = 0) := by decide
      simp only [c1, this] at hok' ⊢
      exact ⟨by simpa using h0, by simp, fun _ e => absurd e (by simp)⟩
  simp only [k1, false_and, if_false]
  by_cases k2 : o.kind = 2
  · have n3 : ¬ o.kind = 3 := by omega
    simp only [n3, false_and, if_false]
    rw [VS.doo2 k2]
    exact ⟨h0, rfl, fun e => e.elim⟩
  by_cases k3 : o.kind = 3
  · simp only [k3, true_and]
    rw [VS.doo3 k3] at hok' ⊢
    unfold VS.destroy at hok' ⊢
    by_cases c1 : V.has o.key = true
    · by_cases c2 : V.gd o.key = true
      · simp only [c1, c2, if_true] at hok' ⊢
        have hh : ∀ k, (({ good := V.good.set o.key.toNat false, boxes := V.boxes.map (wipe o.key) } : VS).has k) = V.has k := fun k => by simp [VS.has]
        have hg : ∀ k, V.has k = true → ((({ good := V.good.set o.key.toNat false, boxes := V.boxes.map (wipe o.key) } : VS).gd k = true) ↔ (k ≠ o.key ∧ V.gd k = true)) := fun k hk => gd_set c1 hk
        refine ⟨⟨hok', by simp [tl], fun n b hb hgd => ?_, fun k hk => ?_, fun k hk => ?_⟩, by simp only [VS.ks, wipe_map], fun e => e.elim⟩
        · simp only [List.getElem?_map, Option.map_eq_some_iff] at hb
          obtain ⟨b', hb', rfl⟩ := hb
          rw [wipe_fst] at hgd
          have hbk := hok b' (List.mem_of_getElem? hb')
          have := (hg _ hbk).1 hgd
          have e : wipe o.key b' = b' := by unfold wipe; rw [if_neg this.1]
          rw [e]
          exact tx n b' hb' this.2
        · rw [hh] at hk
          rw [gd_false, hg k hk]
          simp only [List.mem_append, List.mem_singleton, gn k hk, gd_false]
          by_cases e : k = o.key <;> simp [e]
        · rw [hh]
          rcases List.mem_append.1 hk with hk | hk
          · exact gh k hk
          · simp at hk
            rw [hk]
            exact c1
      · have : ¬ ((5 : Int) = 0) := by decide
        simp only [c1, c2, if_true] at hok' ⊢
        exact ⟨by simpa using h0, by simp, fun e => e.elim⟩
    · simp only [c1] at hok' ⊢
      exact ⟨by simpa using h0, by simp, fun e => e.elim⟩
  simp only [k3, false_and, if_false]
  rw [VS.doo4 k0 k1 k2 k3]
  exact ⟨h0, rfl, fun e => e.elim⟩

structure OI (W : World) (l : List OpR) (vb : Nat) (i : Int) (w : World) (ks ts gs : Sl) : Prop where
  ex : ∃ (O : Nat → Nat → Prop) (V : VS) (texts : List ByteArray) (gone : List Int), Sep W.heap.size w O ∧ IsV w (O 0) vb V ∧ OwnF w (O 1) 3 1 ks (V.ks.flatMap ci) ∧ OwnF w (O 2) 9 1 ts (texts.flatMap cs) ∧ OwnF w (O 3) 3 1 gs (gone.flatMap ci) ∧ OInv V texts gone ∧ V.good.length ≤ i.toNat ∧ V.boxes.length ≤ i.toNat ∧ gone.length ≤ i.toNat
  i0 : 0 ≤ i
  i1 : i ≤ l.length
  bel : Below W.heap.size W w

theorem opens (W : World) (s : Sl) (l : List OpR) (h : Rd W co 4 s l) (hB : ∀ ad, s.a = some ad → 0 < l.length → ad.block < W.heap.size) (hl : l.length ≤ maxLen) :
    callC Try.prog 5 #[s.v] (fun (r : Bool) => .bool r) W fun r w' => r = true ∧ Below W.heap.size W w' := by
  have hl' : l.length ≤ 9223372036854775807 := by unfold maxLen at hl; omega
  refine D5 _ W _ ?_
  unfold F5
  refine (small_c W).use ?_
  rintro r w1 ⟨rfl, q1⟩
  refine (few_c w1 s l 60 (h.keepQ q1) (by decide) (by decide) hl').use ?_
  rintro r w2 ⟨hfew, rfl⟩
  have b1 : Below W.heap.size W w1 := q1.below (Nat.le_refl _) (fun _ e => e.elim)
  refine ⟨fun _ => ⟨rfl, b1⟩, fun hc => ?_⟩
  obtain ⟨h60, _⟩ := hfew (by simpa using hc)
  refine (new_c w1).use ?_
  rintro r w3 ⟨vb, rfl, hv, q3, gv, lv⟩
  refine ⟨fun hc => by simp at hc, fun _ => ?_⟩
  have hs1 := b1.size
  have hs3 := q3.size
  have hsl := h.len
  have b3 : Below W.heap.size W w3 := b1.trans (q3.below hs1 (fun _ e => e.elim))
  refine ⟨fun (x : Sl × Sl × Sl × Int) w => OI W l vb x.2.2.2 w x.1 x.2.1 x.2.2.1, fun x _ => (l.length - x.2.2.2).toNat, ⟨⟨updO noO 0 (fun b => b = vb), ⟨[], []⟩, [], [], (Sep.none _ w1).new hs1 hs3 fun b e => by omega, by simpa using hv, OwnF.nil _ _ _ _, OwnF.nil _ _ _ _, OwnF.nil _ _ _ _, ⟨fun b hb => by simp at hb, rfl, fun n b hb => by simp at hb, fun k hk => by simp [VS.has] at hk; omega, fun k hk => by simp at hk⟩, by simp, by simp, by simp⟩, by decide, by simp, b3⟩, ?_⟩
  rintro ⟨ks, ts, gs, i⟩ w4 ⟨⟨O, V, texts, gone, sep, iv, ok1, ok2, ok3, inv, g1, x1, n1⟩, i0, i1, bel⟩
  dsimp only at *
  have s4 := bel.size
  have lk := (ok1.rd ci1 (by decide)).len
  have lt_ := (ok2.rd cs1 (by decide)).len
  have lg := (ok3.rd ci1 (by decide)).len
  have lks := V.ks_len
  refine ⟨fun hi => ?_, fun hi => ?_⟩
  · have hlt : i < l.length := by simpa [hsl] using hi
    have hx : l[i.toNat]? = some (l[i.toNat]'(by omega)) := List.getElem?_eq_getElem (by omega)
    generalize l[i.toNat]'(by omega) = x at hx
    have rdw : ∀ (w : World), Below W.heap.size W w → ∀ {K : Addr → Prop}, (∀ p, AtC w p (co x) → K p) → ix s i 4 K := fun w hb K k => (h.below hb hB).ix i0 hlt fun p y hy hat _ => by
      rw [hx] at hy
      injection hy with hy
      subst hy
      exact k p hat
    refine jn.mk (fun (c : Sl × Sl × Sl) w' => OI W l vb (i + 1) w' c.1 c.2.1 c.2.2) ?_ ?_
    · refine rdw w4 bel fun p hat => hat.ld (j := 0) rfl (hat.ld (j := 1) rfl (hat.ld (j := 2) rfl (hat.ld (j := 3) rfl ?_)))
      refine (do_c w4 (O 0) vb V x iv inv.ok (by omega) (by omega)).use ?_
      rintro r w6 ⟨rfl, F', iv6, st6⟩
      have sep6 := sep.step s4 st6
      have b6 : Below W.heap.size W w6 := bel.trans (sep.below s4 st6.only)
      have s6 := b6.size
      refine nwL fun b16 w7 hb7 q7 ge7 sz7 lt7 => ?_
      refine hb7.st0 (by simp) fun w8 hb8 on8 sz8 => ?_
      have q8 : Quiet w6 w8 := (q7.trans on8).mono fun b hb e => e.elim id fun e => by omega
      have sep8 : Sep W.heap.size w8 (updO (updO O 0 F') 4 (fun b => b = b16)) := sep6.new s6 q8.size fun b e => by omega
      have b8 : Below W.heap.size W w8 := b6.trans (Only.belowQ q8 s6)
      have s8 := b8.size
      generalize hO : updO (updO O 0 F') 4 (fun b => b = b16) = O8 at sep8
      have e0 : O8 0 = F' := by rw [← hO, updO_ne _ _ (by decide), updO_same]
      have e1 : O8 1 = O 1 := by rw [← hO, updO_ne _ _ (by decide), updO_ne _ _ (by decide)]
      have e2 : O8 2 = O 2 := by rw [← hO, updO_ne _ _ (by decide), updO_ne _ _ (by decide)]
      have e3 : O8 3 = O 3 := by rw [← hO, updO_ne _ _ (by decide), updO_ne _ _ (by decide)]
      have e4 : O8 4 = fun b => b = b16 := by rw [← hO, updO_same]
      have iv8 : IsV w8 (O8 0) vb (V.doo x).1 := e0 ▸ iv6.keepQ q8
      have k1 : OwnF w8 (O8 1) 3 1 ks (V.ks.flatMap ci) := e1 ▸ (ok1.keep st6.only (sep.ne (by decide))).keepQ q8
      have k2 : OwnF w8 (O8 2) 9 1 ts (texts.flatMap cs) := e2 ▸ (ok2.keep st6.only (sep.ne (by decide))).keepQ q8
      have k3 : OwnF w8 (O8 3) 3 1 gs (gone.flatMap ci) := e3 ▸ (ok3.keep st6.only (sep.ne (by decide))).keepQ q8
      have k4 : O8 4 b16 := by rw [e4]
      obtain ⟨inv', hks, hN⟩ := oinv_doo inv x
      obtain ⟨_, l1, l2⟩ := ok_doo inv.ok x
      clear hO e0 e1 e2 e3 e4
      have isz := inv.tl
      -- the keys and the texts
      refine jn.mk (fun (c : Sl × Sl) w' => ∃ O9, Sep W.heap.size w' O9 ∧ Below W.heap.size W w' ∧ IsV w' (O9 0) vb (V.doo x).1 ∧ OwnF w' (O9 1) 3 1 c.1 ((V.doo x).1.ks.flatMap ci) ∧
          OwnF w' (O9 2) 9 1 c.2 ((if x.kind = 1 ∧ (V.doo x).2.2.2 = 0 then texts ++ [x.text] else texts).flatMap cs) ∧ OwnF w' (O9 3) 3 1 gs (gone.flatMap ci) ∧ O9 4 b16 ∧
          Blk w' b16 31 #[.int .i64 (V.doo x).2.1, .string (V.doo x).2.2.1, .int .i64 (V.doo x).2.2.2]) ?_ ?_
      · refine rdw w8 b8 fun p hat => hat.ld (j := 0) rfl ?_
        refine jp.val (decide (x.kind = 1 ∧ (V.doo x).2.2.2 = 0)) ⟨fun hc => hb8.ld rfl ?_, fun hc => ?_⟩ ⟨fun hc => ?_, fun hc => ?_⟩
        · have : x.kind = 1 := by simpa using hc
          simp [this]
        · have : ¬ x.kind = 1 := by simpa using hc
          simp [this]
        · have hc' : x.kind = 1 ∧ (V.doo x).2.2.2 = 0 := by simpa using hc
          rw [if_pos hc'] at hks ⊢
          refine hb8.ld rfl ⟨fun hn => absurd hn (by simp [hN hc'.1 hc'.2, lk, lks]), fun _ => ?_⟩
          refine rdw w8 b8 fun p hat => hat.ld (j := 1) rfl ?_
          refine OwnF.push ap_int k1 rfl rfl (by unfold maxLen; omega) (by omega) fun r w10 F1 k1' hl1 st1 => ?_
          have b10 := b8.trans (sep8.below s8 st1.only)
          have sep10 := sep8.step s8 st1
          have s10 := b10.size
          have k2' : OwnF w10 ((updO O8 1 F1) 2) 9 1 ts (texts.flatMap cs) := by rw [updO_ne _ _ (by decide)]; exact k2.keep st1.only (sep8.ne (by decide))
          have k3' : OwnF w10 ((updO O8 1 F1) 3) 3 1 gs (gone.flatMap ci) := by rw [updO_ne _ _ (by decide)]; exact k3.keep st1.only (sep8.ne (by decide))
          have iv10 : IsV w10 ((updO O8 1 F1) 0) vb (V.doo x).1 := by rw [updO_ne _ _ (by decide)]; exact iv8.keep st1.only (sep8.ne (by decide))
          have hb10 := hb8.keep st1.only (sep8.ne (j := 1) (by decide) _ k4)
          have k4' : (updO O8 1 F1) 4 b16 := by rw [updO_ne _ _ (by decide)]; exact k4
          have k1'' : OwnF w10 ((updO O8 1 F1) 1) 3 1 r ((V.doo x).1.ks.flatMap ci) := by rw [updO_same, hks]; simpa [ci] using k1'
          generalize updO O8 1 F1 = O10 at *
          refine rdw w10 b10 fun p hat => hat.ld (j := 3) rfl ?_
          refine OwnF.push ap_str k2' rfl rfl (by unfold maxLen; omega) (by omega) fun r2 w11 F2 k2'' hl2 st2 => ?_
          have b11 := b10.trans (sep10.below s10 st2.only)
          refine ⟨updO O10 2 F2, sep10.step s10 st2, b11, ?_, ?_, ?_, ?_, ?_, ?_⟩
          · rw [updO_ne _ _ (by decide)]; exact iv10.keep st2.only (sep10.ne (by decide))
          · rw [updO_ne _ _ (by decide)]; exact k1''.keep st2.only (sep10.ne (by decide))
          · rw [updO_same]; simpa [cs] using k2''
          · rw [updO_ne _ _ (by decide)]; exact k3'.keep st2.only (sep10.ne (by decide))
          · rw [updO_ne _ _ (by decide)]; exact k4'
          · exact hb10.keep st2.only (sep10.ne (j := 2) (by decide) _ k4')
        · have hc' : ¬ (x.kind = 1 ∧ (V.doo x).2.2.2 = 0) := by simpa using hc
          rw [if_neg hc'] at hks ⊢
          exact ⟨O8, sep8, b8, iv8, hks ▸ k1, k2, k3, k4, hb8⟩
      rintro ⟨ks', ts'⟩ w9 ⟨O9, sep9, b9, iv9, k1, k2, k3, k4, hb9⟩
      have s9 := b9.size
      refine rdw w9 b9 fun p hat => hat.ld (j := 0) rfl ?_
      refine jp.val (decide (x.kind = 3 ∧ (V.doo x).2.2.2 = 0)) ⟨fun hc => hb9.ld rfl ?_, fun hc => ?_⟩ ⟨fun hc => ?_, fun hc => ?_⟩
      · have : x.kind = 3 := by simpa using hc
        simp [this]
      · have : ¬ x.kind = 3 := by simpa using hc
        simp [this]
      · have hc' : x.kind = 3 ∧ (V.doo x).2.2.2 = 0 := by simpa using hc
        rw [if_pos hc'] at inv'
        refine rdw w9 b9 fun p hat => hat.ld (j := 1) rfl ?_
        refine OwnF.push ap_int k3 rfl rfl (by unfold maxLen; omega) (by omega) fun r w10 F3 k3' hl3 st3 => ?_
        refine ⟨⟨updO O9 3 F3, (V.doo x).1, _, _, sep9.step s9 st3, ?_, ?_, ?_, ?_, inv', by omega, by omega, by simp; omega⟩, by omega, by omega, b9.trans (sep9.below s9 st3.only)⟩
        · rw [updO_ne _ _ (by decide)]; exact iv9.keep st3.only (sep9.ne (by decide))
        · rw [updO_ne _ _ (by decide)]; exact k1.keep st3.only (sep9.ne (by decide))
        · rw [updO_ne _ _ (by decide)]; exact k2.keep st3.only (sep9.ne (by decide))
        · rw [updO_same]; simpa [ci] using k3'
      · have hc' : ¬ (x.kind = 3 ∧ (V.doo x).2.2.2 = 0) := by simpa using hc
        rw [if_neg hc'] at inv'
        exact ⟨⟨O9, (V.doo x).1, _, _, sep9, iv9, k1, k2, k3, inv', by omega, by omega, by omega⟩, by omega, by omega, b9⟩
    rintro ⟨ks', ts', gs'⟩ w5 hT
    have := hT.i1
    rw [w64 (by omega) (by omega)]
    exact ⟨hT, by (try dsimp only); omega⟩
  -- the boxes are opened
  have hend : i = l.length := by simp [hsl] at hi; omega
  refine ⟨fun b w' => 0 ≤ b ∧ b ≤ V.boxes.length ∧ Quiet w4 w', fun b _ => (V.boxes.length - b).toNat, ⟨by omega, by omega, Only.refl _ _⟩, ?_⟩
  rintro b w16 ⟨b0, b1, q16⟩
  refine ⟨fun hb => ?_, fun hb => ⟨rfl, bel.trans (Only.belowQ q16 s4)⟩⟩
  have hb' : b < V.boxes.length := by rw [lk, lks] at hb; simpa using hb
  have hx : V.boxes[b.toNat]? = some (V.boxes[b.toNat]'(by omega)) := List.getElem?_eq_getElem (by omega)
  generalize V.boxes[b.toNat]'(by omega) = x at hx
  have hxk : V.ks[b.toNat]? = some x.1 := by simp [VS.ks, hx]
  have rk : ∀ (w : World), Quiet w4 w → Rd w ci 1 ks V.ks := fun w q => (ok1.keepQ q).rd ci1 (by decide)
  have rg : ∀ (w : World), Quiet w4 w → Rd w ci 1 gs gone := fun w q => (ok3.keepQ q).rd ci1 (by decide)
  have rt : ∀ (w : World), Quiet w4 w → Rd w cs 1 ts texts := fun w q => (ok2.keepQ q).rd cs1 (by decide)
  refine ⟨fun (c : Bool × Int) w' => 0 ≤ c.2 ∧ c.2 ≤ gone.length ∧ (c.1 = true ↔ x.1 ∈ gone.take c.2.toNat) ∧ Quiet w4 w', fun c _ => (gone.length - c.2).toNat, ⟨by simp, by simp, by simp, q16⟩, ?_⟩
  rintro ⟨lost, j⟩ w17 ⟨j0, j1, hlost, q17⟩
  dsimp only at j0 j1 hlost ⊢
  refine ⟨fun hj => ?_, fun hj => ?_⟩
  · have hj' : j < gone.length := by rw [lg] at hj; simpa using hj
    have hy : gone[j.toNat]? = some (gone[j.toNat]'(by omega)) := List.getElem?_eq_getElem (by omega)
    have htk : gone.take (j.toNat + 1) = gone.take j.toNat ++ [gone[j.toNat]'(by omega)] := by rw [List.take_succ_eq_append_getElem]
    generalize gone[j.toNat]'(by omega) = y at hy htk
    have q18 : Quiet w4 w17.drew := (q17.trans (Only.drew (fun _ => False) w17)).mono fun _ _ e => e.elim id id
    refine jn.mk (fun c w' => (c = true ↔ x.1 ∈ gone.take (j.toNat + 1)) ∧ Quiet w4 w') ?_ ?_
    · show tk w17 _
      unfold tk
      refine ⟨fun hc => ⟨by rw [htk]; simp [hlost.1 hc], q18⟩, fun hc => ?_⟩
      have hc' : lost = false := by simpa using hc
      refine (rg _ q18).ix j0 hj' fun p z hz hat _ => hat.ld0 rfl ?_
      refine (rk _ q18).ix b0 (by omega) fun p' z' hz' hat' _ => hat'.ld0 rfl ⟨?_, q18⟩
      rw [hy] at hz
      rw [hxk] at hz'
      injection hz with hz
      injection hz' with hz'
      subst hz hz'
      rw [htk]
      simp only [List.mem_append, List.mem_singleton, ← hlost, hc', decide_eq_true_eq]
      simp [eq_comm]
    · rintro c w' ⟨hc, q⟩
      rw [w64 (by omega) (by omega)]
      refine ⟨⟨by (try dsimp only); omega, by (try dsimp only); omega, ?_, q⟩, by (try dsimp only); omega⟩
      try dsimp only
      rw [show (j + 1).toNat = j.toNat + 1 by omega]
      exact hc
  have hj' : j = gone.length := by rw [lg] at hj; simp at hj; omega
  have hlost' : lost = true ↔ V.gd x.1 = false := by
    rw [hlost, hj']
    simp only [Int.toNat_natCast, List.take_length]
    exact inv.gn x.1 (inv.ok x (List.mem_of_getElem? hx))
  refine ⟨fun k w' => -1 ≤ k ∧ k ≤ 64 ∧ Quiet w4 w', fun k _ => (64 - k).toNat, ⟨by omega, by omega, q17⟩, ?_⟩
  rintro k w20 ⟨k0, k1, q20⟩
  have iv20 := iv.keepQ q20
  refine (keys_c w20 _ vb V iv20).use ?_
  rintro r w21 ⟨rfl, rfl⟩
  refine ⟨fun hk => ?_, fun hk => ?_⟩
  · have hk' : k ≤ V.good.length ∧ k < 64 := by simpa using hk
    refine jn.mk (fun _ w' => Quiet w4 w') ?_ ?_
    · refine (open_c w20 _ vb V k b iv20 inv.ok).use ?_
      rintro r w23 ⟨rfl, q23⟩
      have q23' : Quiet w4 w23 := (q20.trans q23).mono fun _ _ e => e.elim id id
      refine (rk _ q23').ix b0 (by omega) fun p z hz hat _ => hat.ld0 rfl ?_
      rw [hxk] at hz
      injection hz with hz
      subst hz
      have hop : V.opn k b = if x.1 = k ∧ V.gd k = true then (x.2, 0) else (ByteArray.mk #[], 13) := by
        unfold VS.opn
        rw [if_neg (by omega), hx]
      refine ⟨fun hc => ?_, fun hc => ?_⟩
      · have hc' : k = x.1 ∧ lost = false := by simpa using hc
        have hg : V.gd x.1 = true := by
          cases e : V.gd x.1 with
          | true => rfl
          | false => have := hlost'.2 e; simp [hc'.2] at this
        rw [hop, hc'.1, if_pos ⟨rfl, hg⟩]
        refine jp.val false ⟨fun hc => absurd hc (by simp), fun _ => ?_⟩ ⟨fun hc => by simp at hc, fun _ => q23'⟩
        refine (rt _ q23').ix b0 (by rw [inv.tl]; exact hb') fun p z hz hat _ => hat.ld0 rfl ?_
        rw [inv.tx _ _ hx hg] at hz
        injection hz with hz
        subst hz
        simp [beqS_eq]
      · have hc' : ¬ (x.1 = k ∧ V.gd k = true) := fun e => by
          have : lost = false := by
            cases h : lost with
            | false => rfl
            | true => have := hlost'.1 h; rw [e.1] at this; simp [e.2] at this
          simp [e.1, this] at hc
        rw [hop, if_neg hc']
        exact ⟨fun hc => absurd hc (by simp [beqS_eq]), fun _ => q23'⟩
    · rintro _ w' q
      rw [w64 (by omega) (by omega)]
      exact ⟨⟨by omega, by omega, q⟩, by (try dsimp only); omega⟩
  · rw [w64 (by omega) (by omega)]
    exact ⟨⟨by omega, by omega, q20⟩, by (try dsimp only); omega⟩
end Go.Proofs.Ytfmimbcljhjflaa
