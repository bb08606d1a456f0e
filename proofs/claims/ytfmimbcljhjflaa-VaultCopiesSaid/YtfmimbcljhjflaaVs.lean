import Derived.Test.YtfmimbcljhjflaaVt
namespace Go.Proofs.Ytfmimbcljhjflaa
open Go.Dec Go.RowKit
set_option maxHeartbeats 400000

/-! ### two vaults that are told the same, but for the texts -/
structure Twin (V U : VS) : Prop where
  good : U.good = V.good
  keys : U.boxes.map (·.1) = V.boxes.map (·.1)
  ok : V.ok
theorem Twin.len {V U : VS} (h : Twin V U) : U.boxes.length = V.boxes.length := by have := congrArg List.length h.keys; simpa using this
theorem Twin.has {V U : VS} (h : Twin V U) (k : Int) : U.has k = V.has k := by unfold VS.has; rw [h.good]
theorem Twin.gd {V U : VS} (h : Twin V U) (k : Int) : U.gd k = V.gd k := by unfold VS.gd; rw [h.good]
theorem VS.ok_iff {V : VS} : V.ok ↔ ∀ k ∈ V.boxes.map (·.1), V.has k = true := by
  unfold VS.ok
  simp
theorem Twin.ok' {V U : VS} (h : Twin V U) : U.ok := by
  rw [VS.ok_iff, h.keys]
  intro k hk
  rw [h.has]
  exact VS.ok_iff.1 h.ok k hk

theorem wipe_fst (k : Int) (b : Int × ByteArray) : (wipe k b).1 = b.1 := by unfold wipe; split <;> rfl
theorem wipe_map (k : Int) (l : List (Int × ByteArray)) : (l.map (wipe k)).map (·.1) = l.map (·.1) := by
  rw [List.map_map]
  exact List.map_congr_left fun b _ => wipe_fst k b
theorem opn_err (V : VS) (k n : Int) : (V.opn k n).2 = if n < 0 ∨ ((V.boxes.map (·.1)).length : Int) ≤ n then 4 else match (V.boxes.map (·.1))[n.toNat]? with
    | some x => if x = k ∧ V.gd k = true then 0 else 13
    | none => 13 := by
  unfold VS.opn
  simp only [List.length_map, List.getElem?_map]
  split
  · rfl
  · cases V.boxes[n.toNat]? with
    | none => rfl
    | some b =>
      simp only [Option.map_some]
      split <;> rfl

/-- a call keeps: every box's key is a key -/
theorem ok_doo {V : VS} (h : V.ok) (o : OpR) : (V.doo o).1.ok ∧ (V.doo o).1.good.length ≤ V.good.length + 1 ∧ (V.doo o).1.boxes.length ≤ V.boxes.length + 1 := by
  by_cases k0 : o.kind = 0
  · rw [VS.doo0 k0]
    refine ⟨fun b hb => ?_, by simp [VS.key], by simp [VS.key]⟩
    obtain ⟨b0, b1⟩ := has_bd (h b hb)
    simp [VS.has, VS.key]; omega
  by_cases k1 : o.kind = 1
  · rw [VS.doo1 k1]
    unfold VS.lock
    by_cases c1 : V.has o.key = true
    · by_cases c2 : V.gd o.key = true
      · simp only [c1, c2, if_true]
        refine ⟨fun b hb => ?_, by simp, by simp⟩
        rcases List.mem_append.1 hb with hb | hb
        · exact h b hb
        · simp at hb
          subst hb
          exact c1
      · simp only [c1, c2, if_true]
        exact ⟨h, by simp, by simp⟩
    · simp only [c1]
      exact ⟨h, by simp, by simp⟩
  by_cases k2 : o.kind = 2
  · rw [VS.doo2 k2]
    exact ⟨h, by simp, by simp⟩
  by_cases k3 : o.kind = 3
  · rw [VS.doo3 k3]
    unfold VS.destroy
    by_cases c1 : V.has o.key = true
    · by_cases c2 : V.gd o.key = true
      · simp only [c1, c2, if_true]
        refine ⟨fun b hb => ?_, by simp, by simp⟩
        obtain ⟨b', hb', rfl⟩ := List.mem_map.1 hb
        have := h b' hb'
        simpa [VS.has, wipe_fst] using this
      · simp only [c1, c2, if_true]
        exact ⟨h, by simp, by simp⟩
    · simp only [c1]
      exact ⟨h, by simp, by simp⟩
  rw [VS.doo4 k0 k1 k2 k3]
  exact ⟨h, by simp, by simp⟩

theorem twin_doo {V U : VS} (h : Twin V U) (o p : OpR) (hk : p.kind = o.kind) (hy : p.key = o.key) (hb : p.box = o.box) :
    (U.doo p).2.1 = (V.doo o).2.1 ∧ (U.doo p).2.2.2 = (V.doo o).2.2.2 ∧ Twin (V.doo o).1 (U.doo p).1 := by
  have hok := (ok_doo h.ok o).1
  by_cases k0 : o.kind = 0
  · rw [VS.doo0 k0] at hok ⊢
    rw [VS.doo0 (hk.trans k0)]
    exact ⟨by simp [h.good], rfl, by simp [VS.key, h.good], by simpa [VS.key] using h.keys, hok⟩
  by_cases k1 : o.kind = 1
  · rw [VS.doo1 k1] at hok ⊢
    rw [VS.doo1 (hk.trans k1)]
    unfold VS.lock at hok ⊢
    simp only [h.has, h.gd, hy]
    by_cases c1 : V.has o.key = true
    · by_cases c2 : V.gd o.key = true
      · simp only [c1, c2, if_true] at hok ⊢
        exact ⟨by simp [h.len], by simp, h.good, by simpa using h.keys, hok⟩
      · simp only [c1, c2, if_true] at hok ⊢
        exact ⟨by simp, by simp, h⟩
    · simp only [c1] at hok ⊢
      exact ⟨by simp, by simp, h⟩
  by_cases k2 : o.kind = 2
  · rw [VS.doo2 k2, VS.doo2 (hk.trans k2)]
    refine ⟨rfl, ?_, h⟩
    simp only [opn_err, h.keys, h.gd, hy, hb]
  by_cases k3 : o.kind = 3
  · rw [VS.doo3 k3] at hok ⊢
    rw [VS.doo3 (hk.trans k3)]
    unfold VS.destroy at hok ⊢
    simp only [h.has, h.gd, hy]
    by_cases c1 : V.has o.key = true
    · by_cases c2 : V.gd o.key = true
      · simp only [c1, c2, if_true] at hok ⊢
        exact ⟨by simp, by simp, by simp [h.good], by simp only [wipe_map]; exact h.keys, hok⟩
      · simp only [c1, c2, if_true] at hok ⊢
        exact ⟨by simp, by simp, h⟩
    · simp only [c1] at hok ⊢
      exact ⟨by simp, by simp, h⟩
  rw [VS.doo4 k0 k1 k2 k3, VS.doo4 (fun e => k0 (hk.symm.trans e)) (fun e => k1 (hk.symm.trans e)) (fun e => k2 (hk.symm.trans e)) (fun e => k3 (hk.symm.trans e))]
  exact ⟨by simp, by simp, h⟩

structure SI (W : World) (B : Nat) (l : List OpR) (vb ub : Nat) (i : Int) (w : World) : Prop where
  ex : ∃ (F G : Nat → Prop) (V U : VS), IsV w F vb V ∧ IsV w G ub U ∧ Twin V U ∧ V.good.length ≤ i.toNat ∧ V.boxes.length ≤ i.toNat ∧ (∀ b, F b → B ≤ b) ∧ (∀ b, G b → B ≤ b) ∧ (∀ b, F b → ¬ G b)
  i0 : 0 ≤ i
  i1 : i ≤ l.length
  bel : Below B W w

theorem secret (W : World) (s : Sl) (l : List OpR) (h : Rd W co 4 s l) (hB : ∀ ad, s.a = some ad → 0 < l.length → ad.block < W.heap.size) (hl : l.length ≤ maxLen)
    (t : Sl) (m : List ByteArray) (hm : Rd W cs 1 t m) (hBm : ∀ ad, t.a = some ad → 0 < m.length → ad.block < W.heap.size) (_ : m.length ≤ maxLen) :
    callC Try.prog 4 #[s.v, t.v] (fun (r : Bool) => .bool r) W fun r w' => r = true ∧ Below W.heap.size W w' := by
  have hl' : l.length ≤ 9223372036854775807 := by unfold maxLen at hl; omega
  refine D4 _ _ W _ ?_
  unfold F4
  refine (small_c W).use ?_
  rintro r w1 ⟨rfl, q1⟩
  refine (few_c w1 s l 60 (h.keepQ q1) (by decide) (by decide) hl').use ?_
  rintro r w2 ⟨hfew, rfl⟩
  have b1 : Below W.heap.size W w1 := q1.below (Nat.le_refl _) (fun _ e => e.elim)
  refine ⟨fun _ => ⟨rfl, b1⟩, fun hc => ?_⟩
  have hc' : r = true := by cases r <;> simp_all
  obtain ⟨h60, _⟩ := hfew hc'
  refine (new_c w1).use ?_
  rintro r w3 ⟨vb, rfl, hv, q3, gv, lv⟩
  refine (new_c w3).use ?_
  rintro r w4 ⟨ub, rfl, hu, q4, gu, lu⟩
  refine ⟨fun hc => by simp at hc, fun _ => ?_⟩
  have hs1 := b1.size
  have hs3 := q3.size
  have b4 : Below W.heap.size W w4 := (b1.trans (q3.below hs1 (fun _ e => e.elim))).trans (q4.below (Nat.le_trans hs1 hs3) (fun _ e => e.elim))
  refine ⟨SI W W.heap.size l vb ub, fun i _ => (l.length - i).toNat, ⟨⟨_, _, _, _, hv.keepQ q4, hu, ⟨rfl, rfl, fun b hb => by simp at hb⟩, by simp, by simp, fun b e => by omega, fun b e => by omega, fun b e e' => by omega⟩, by decide, by omega, b4⟩, ?_⟩
  rintro i w5 ⟨⟨F, G, V, U, iv, iu, tw, g1, x1, fB, gB, dis⟩, i0, i1, bel⟩
  have hsl := h.len
  have htl := hm.len
  refine ⟨fun hi => ?_, fun hi => ⟨rfl, bel⟩⟩
  have hlt : i < l.length := by simpa [hsl] using hi
  have rd5 := h.below bel hB
  have rm5 := hm.below bel hBm
  have s5 := bel.size
  refine rd5.ix i0 hlt fun p x hx hat _ => hat.ld (j := 0) rfl (hat.ld (j := 1) rfl (hat.ld (j := 2) rfl (hat.ld (j := 3) rfl ?_)))
  refine nwL fun b6 w6 hb6 q6 ge6 sz6 lt6 => ?_
  refine hb6.st0 (by simp) fun w7 hb7 on7 sz7 => ?_
  have q7 : Quiet w5 w7 := (q6.trans on7).mono fun b hb e => e.elim id fun e => by omega
  -- the other op
  refine jn.mk (fun _ w' => ∃ x' : OpR, x'.kind = x.kind ∧ x'.key = x.key ∧ x'.box = x.box ∧ Blk w' b6 34 #[.int .i64 x'.kind, .int .i64 x'.key, .int .i64 x'.box, .string x'.text] ∧ Quiet w5 w') ?_ ?_
  · refine ⟨fun hc => ?_, fun _ => ⟨x, rfl, rfl, rfl, hb7, q7⟩⟩
    have hc' : i < m.length := by simpa [htl] using hc
    refine (rm5.keepQ q7).ix i0 hc' fun p y hy hat _ => hat.ld0 rfl ?_
    refine hb7.st (by simp [splice]) fun w9 hb9 on9 _ => ⟨⟨x.kind, x.key, x.box, y⟩, rfl, rfl, rfl, hb9, (q7.trans on9).mono fun b hb e => e.elim id fun e => by omega⟩
  rintro _ w8 ⟨x', ek, ey, eb, hb8, q8⟩
  have bel8 : Below W.heap.size W w8 := bel.trans (q8.below s5 fun _ e => e.elim)
  have s8 := bel8.size
  have iv8 := iv.keepQ q8
  have iu8 := iu.keepQ q8
  refine (h.below bel8 hB).ix i0 hlt fun p' z hz hat' _ => hat'.ld (j := 0) rfl (hat'.ld (j := 1) rfl (hat'.ld (j := 2) rfl (hat'.ld (j := 3) rfl ?_)))
  rw [hx] at hz
  injection hz with hz
  subst hz
  refine (do_c w8 F vb V x iv8 tw.ok (by omega) (by omega)).use ?_
  rintro r w10 ⟨rfl, F', iv10, st10⟩
  have nF : ∀ b, F b → b < w5.heap.size := iv.lt
  have nG : ∀ b, G b → b < w5.heap.size := iu.lt
  have hb10 := hb8.keep st10.only fun e => by have := nF _ e; omega
  have iu10 : IsV w10 G ub U := iu8.keep st10.only fun b hg hf => dis b hf hg
  refine nwL fun b11 w11 hb11 q11 ge11 sz11 lt11 => ?_
  refine hb11.st0 (by simp) fun w12 hb12 on12 sz12 => ?_
  have q12 : Quiet w10 w12 := (q11.trans on12).mono fun b hb e => e.elim id fun e => by omega
  have hb12' := hb10.keepQ q12
  refine hb12'.ld rfl (hb12'.ld rfl (hb12'.ld rfl (hb12'.ld rfl ?_)))
  have tl := tw.len
  refine (do_c w12 G ub U x' (iu10.keepQ q12) tw.ok' (by rw [tw.good]; omega) (by omega)).use ?_
  rintro r w13 ⟨rfl, G', iu13, st13⟩
  have z8 := q8.size
  have z10 := st10.only.size
  have z12 := q12.size
  have z13 := st13.only.size
  have hb13 := hb12.keep st13.only fun e => by have := nG _ e; omega
  refine nwL fun b14 w14 hb14 q14 ge14 sz14 lt14 => ?_
  refine hb14.st0 (by simp) fun w15 hb15 on15 sz15 => ?_
  have q15 : Quiet w13 w15 := (q14.trans on15).mono fun b hb e => e.elim id fun e => by omega
  have hb15' := hb13.keepQ q15
  obtain ⟨r1, r2, tw'⟩ := twin_doo tw x x' ek ey eb
  have iv15 : IsV w15 F' vb (V.doo x).1 := ((iv10.keepQ q12).keep st13.only fun b hf hg => by
    rcases st10.sub b hf with e | e
    · exact dis b e hg
    · have := nG b hg
      omega).keepQ q15
  have iu15 := iu13.keepQ q15
  obtain ⟨hok', l1, l2⟩ := ok_doo tw.ok x
  have fin : SI W W.heap.size l vb ub (i + 1) w15 := by
    refine ⟨⟨F', G', _, _, iv15, iu15, tw', by omega, by omega, fun b e => ?_, fun b e => ?_, fun b e e' => ?_⟩, by omega, by omega, ?_⟩
    · rcases st10.sub b e with e | e
      · exact fB b e
      · omega
    · rcases st13.sub b e with e | e
      · exact gB b e
      · omega
    · have := iv10.lt b e
      rcases st13.sub b e' with e' | e'
      · rcases st10.sub b e with e | e
        · exact dis b e e'
        · have := nG b e'
          omega
      · omega
    · exact (((bel8.trans (Quiet.stp_below st10 fB s8)).trans (q12.below (by omega) fun _ e => e.elim)).trans (Quiet.stp_below st13 gB (by omega))).trans (q15.below (by omega) fun _ e => e.elim)
  refine hb15'.ld rfl (hb15.ld rfl ?_)
  refine jp.val false ⟨fun hc => absurd hc (by simp [r1]), fun _ => hb15'.ld rfl (hb15.ld rfl (by simp [r2]))⟩ ?_
  refine jn.in_ ⟨fun hc => absurd hc (by decide), fun _ => ?_⟩
  refine (keys_c w15 F' vb _ iv15).use ?_
  rintro r w16 ⟨rfl, rfl⟩
  refine (keys_c w15 G' ub _ iu15).use ?_
  rintro r w16 ⟨rfl, rfl⟩
  rw [tw'.good]
  refine jn.in_ ⟨fun hc => absurd hc (by simp), fun _ => ?_⟩
  refine (boxes_c w15 F' vb _ iv15).use ?_
  rintro r w16 ⟨rfl, rfl⟩
  refine (boxes_c w15 G' ub _ iu15).use ?_
  rintro r w16 ⟨rfl, rfl⟩
  rw [tw'.len]
  refine ⟨fun hc => absurd hc (by simp), fun _ => ?_⟩
  rw [w64 (by omega) (by omega)]
  exact ⟨fin, by dsimp only; omega⟩
end Go.Proofs.Ytfmimbcljhjflaa
