import Derived.Test.YtfmimbcljhjflaaVo
namespace Go.Proofs.Ytfmimbcljhjflaa
open Go.Dec Go.RowKit
set_option maxHeartbeats 400000

theorem ap_done : appOK Try.prog 46 31 3 32 = true := by kernel_rfl

/-- a clone: a row of its own, with the same in it -/
theorem clone_ {w : World} {t ty e sz bytes : Nat} {s : Sl} {xs : List Value} {K : Sl → World → Prop} (hok : appOK Try.prog t e sz bytes = true) (h : Own w e sz s xs) (h1 : xs.all Value.oneCell' = true) (h63 : s.len ≤ maxLen) (hb : s.len * bytes ≤ 140737488355328)
    (k : ∀ r w' F', OwnF w' F' e sz r xs → Quiet w w' → (∀ b, F' b → w.heap.size ≤ b ∧ b < w'.heap.size) → K r w') :
    cnd (s.a.isNone) (K Sl.nil w) (nw e #[] w fun b w1 => rn Try.prog (Builtin.append_ #[t, t] ty #[Sl.v (⟨some ⟨b, 0, none⟩, 0, 0⟩ : Sl), Sl.v s]) Sl.v w1 K) := by
  refine ⟨fun hc => ?_, fun hc => ?_⟩
  · rcases h.form with ⟨rfl, rfl⟩ | ⟨g, cur, h1, _⟩
    · exact k _ w (fun _ => False) (OwnF.nil _ _ _ _) (Only.refl _ _) fun b e => e.elim
    · rw [h1] at hc
      simp at hc
  · refine nwL fun b w1 hB hq hge hsz hlt => ?_
    obtain ⟨ad, ha⟩ : ∃ ad, s.a = some ad := by
      cases e : s.a with
      | none => rw [e] at hc; simp at hc
      | some ad => exact ⟨ad, rfl⟩
    have ho : Own w1 e sz (⟨some ⟨b, 0, none⟩, 0, 0⟩ : Sl) [] := Own.mk' rfl hB (Nat.le_refl _) (Nat.zero_le _) (by simp) (by simp)
    refine Own.append hok ho ⟨ad, ha, fun j u hu => ?_⟩ h.len h1 (by simpa using h63) (by simpa using hb) fun r w' ho' hl hon hbk => ?_
    · obtain ⟨g, hg, hcell⟩ := (h.keepQ hq).cell j u hu
      rw [ha] at hg
      injection hg with hg
      subst hg
      rw [mk_add, Nat.zero_add]
      exact hcell
    · have q : Quiet w w' := (hq.trans hon).mono fun b' hb' e => e.elim id fun e => by simp [Sl.blk] at e; omega
      refine k r w' (fun b => w.heap.size ≤ b ∧ b < w'.heap.size) ⟨by simpa using ho', fun b' hb' => ?_⟩ q fun b e => e
      have := ho'.lt hb'
      rcases hbk with e | e
      · rw [hb'] at e
        simp [Sl.blk] at e
        omega
      · rw [hb'] at e
        injection e with e
        omega

theorem all_one {α : Type} {c : α → List Value} (hc : ∀ x, (c x).all Value.oneCell' = true) (l : List α) : (l.flatMap c).all Value.oneCell' = true := by
  induction l with
  | nil => rfl
  | cons x l ih => simp only [List.flatMap_cons, List.all_append, hc, ih, Bool.and_self]

theorem clone24 (w : World) (s : Sl) (l : List Bool) (h : Own w 4 1 s (l.flatMap cb)) (hl : l.length ≤ 100000) :
    callC Try.prog 24 #[s.v] Sl.v w fun r w' => ∃ F', OwnF w' F' 4 1 r (l.flatMap cb) ∧ Quiet w w' ∧ ∀ b, F' b → w.heap.size ≤ b ∧ b < w'.heap.size := by
  have := (h.rd cb1 (by decide)).len
  refine D24 _ w _ ?_
  unfold F24
  exact clone_ (K := fun r w' => ∃ F', OwnF w' F' 4 1 r (l.flatMap cb) ∧ Quiet w w' ∧ ∀ b, F' b → w.heap.size ≤ b ∧ b < w'.heap.size) ap37 h (all_one (fun _ => rfl) l) (by unfold maxLen; omega) (by omega) fun r w' F' h1 h2 h3 => ⟨F', h1, h2, h3⟩
theorem clone25 (w : World) (s : Sl) (l : List (Int × ByteArray)) (h : Own w 55 2 s (l.flatMap cx)) (hl : l.length ≤ 100000) :
    callC Try.prog 25 #[s.v] Sl.v w fun r w' => ∃ F', OwnF w' F' 55 2 r (l.flatMap cx) ∧ Quiet w w' ∧ ∀ b, F' b → w.heap.size ≤ b ∧ b < w'.heap.size := by
  have := (h.rd cx2 (by decide)).len
  refine D25 _ w _ ?_
  unfold F25
  exact clone_ (K := fun r w' => ∃ F', OwnF w' F' 55 2 r (l.flatMap cx) ∧ Quiet w w' ∧ ∀ b, F' b → w.heap.size ≤ b ∧ b < w'.heap.size) ap51 h (all_one (fun _ => rfl) l) (by unfold maxLen; omega) (by omega) fun r w' F' h1 h2 h3 => ⟨F', h1, h2, h3⟩

theorem copy_c (w : World) (F : Nat → Prop) (vb : Nat) (V : VS) (h : IsV w F vb V) (hn : V.good.length ≤ 100000) (hn' : V.boxes.length ≤ 100000) :
    callC Try.prog 16 #[.pointer (some ⟨vb, 0, none⟩)] (fun (r : Option Addr) => .pointer r) w fun r w' => ∃ ub F', r = some ⟨ub, 0, none⟩ ∧ IsV w' F' ub V ∧ Quiet w w' ∧ ∀ b, F' b → w.heap.size ≤ b ∧ b < w'.heap.size := by
  refine D16 _ w _ ?_
  unfold F16
  refine jn.in_ ?_
  show tk w _
  unfold tk
  have h' := h.keepQ (Only.drew (fun _ => False) w)
  obtain ⟨gs, bs, h1, h2, h3, h4, h5, h6⟩ := h'.ex
  refine nn_ (h1.ld rfl (nn_ (h1.ld rfl ?_)))
  refine (clone24 _ gs V.good h2 hn).use ?_
  rintro r w2 ⟨F1, o1, q1, b1⟩
  refine ⟨(h1.keepQ q1).ld0' rfl, ?_⟩
  refine (clone25 w2 bs V.boxes (h3.keepQ q1) hn').use ?_
  rintro r2 w3 ⟨F2, o2, q2, b2⟩
  refine nwL fun b9 w4 hb9 q4 ge9 sz9 lt9 => ?_
  have s1 := q1.size
  have s2 := q2.size
  have s0 : w.heap.size = w.drew.heap.size := rfl
  refine ⟨b9, fun b => w.heap.size ≤ b ∧ b < w4.heap.size, rfl, ⟨⟨r, r2, hb9, o1.own.keepQ ((q2.trans q4).mono fun _ _ e => e.elim id id), o2.own.keepQ q4, by omega, fun b hb => ?_, fun b hb => ?_⟩, fun b e => e.2⟩, ?_, fun b e => e⟩
  · have := b1 b (o1.blk b hb)
    omega
  · have := b2 b (o2.blk b hb)
    omega
  · exact ((((Only.drew (fun _ => False) w).trans q1).trans q2).trans q4).mono fun _ _ e => by simp at e

/-! ### many calls -/
def VS.runs (V : VS) (l : List OpR) : VS := l.foldl (fun V o => (V.doo o).1) V
abbrev DoneR := Int × ByteArray × Int
def cd (r : DoneR) : List Value := [.int .i64 r.1, .string r.2.1, .int .i64 r.2.2]
theorem cd3 (r : DoneR) : (cd r).length = 3 := rfl
def VS.outs : VS → List OpR → List DoneR
  | _, [] => []
  | V, o :: l => (V.doo o).2 :: VS.outs (V.doo o).1 l
theorem runs_snoc (V : VS) (l : List OpR) (x : OpR) : V.runs (l ++ [x]) = ((V.runs l).doo x).1 := by simp [VS.runs]
theorem outs_snoc : ∀ (V : VS) (l : List OpR) (x : OpR), V.outs (l ++ [x]) = V.outs l ++ [((V.runs l).doo x).2]
  | V, [], x => by simp [VS.outs, VS.runs]
  | V, o :: l, x => by
    simp only [List.cons_append, VS.outs, outs_snoc (V.doo o).1 l x]
    simp [VS.runs]
theorem outs_len : ∀ (V : VS) (l : List OpR), (V.outs l).length = l.length
  | V, [] => rfl
  | V, o :: l => by simp [VS.outs, outs_len (V.doo o).1 l]
theorem outs_get : ∀ (V : VS) (l : List OpR) (j : Nat) (x : OpR), l[j]? = some x → (V.outs l)[j]? = some ((V.runs (l.take j)).doo x).2
  | V, [], j, x, h => by simp at h
  | V, o :: l, 0, x, h => by
    simp at h
    subst h
    simp [VS.outs, VS.runs]
  | V, o :: l, j + 1, x, h => by
    simp only [List.getElem?_cons_succ] at h
    simp only [VS.outs, List.getElem?_cons_succ, outs_get (V.doo o).1 l j x h]
    simp [VS.runs]
theorem take_next {α : Type} {l : List α} {j : Nat} {x : α} (h : l[j]? = some x) : l.take (j + 1) = l.take j ++ [x] := by
  obtain ⟨hj, rfl⟩ := List.getElem?_eq_some_iff.1 h
  rw [List.take_succ_eq_append_getElem]
structure Fit (V : VS) (n : Nat) : Prop where
  ok : V.ok
  g : V.good.length ≤ n
  b : V.boxes.length ≤ n
theorem Fit.doo {V : VS} {n : Nat} (h : Fit V n) (o : OpR) : Fit (V.doo o).1 (n + 1) := by
  obtain ⟨a, b, c⟩ := ok_doo h.ok o
  have := h.g
  have := h.b
  exact ⟨a, by omega, by omega⟩

theorem copies (W : World) (s : Sl) (l : List OpR) (h : Rd W co 4 s l) (hB : ∀ ad, s.a = some ad → 0 < l.length → ad.block < W.heap.size) (hl : l.length ≤ maxLen)
    (t : Sl) (m : List OpR) (hm : Rd W co 4 t m) (hBm : ∀ ad, t.a = some ad → 0 < m.length → ad.block < W.heap.size) (hlm : m.length ≤ maxLen) :
    callC Try.prog 6 #[s.v, t.v] (fun (r : Bool) => .bool r) W fun r w' => r = true ∧ Below W.heap.size W w' := by
  have hl' : l.length ≤ 9223372036854775807 := by unfold maxLen at hl; omega
  have hlm' : m.length ≤ 9223372036854775807 := by unfold maxLen at hlm; omega
  have hsl := h.len
  have htl := hm.len
  refine D6 _ _ W _ ?_
  unfold F6
  refine (small_c W).use ?_
  rintro r w1 ⟨rfl, q1⟩
  refine (few_c w1 s l 40 (h.keepQ q1) (by decide) (by decide) hl').use ?_
  rintro r w2 ⟨hfew, rfl⟩
  have b1 : Below W.heap.size W w1 := q1.below (Nat.le_refl _) (fun _ e => e.elim)
  refine jn.mk (fun c w' => (c = false → (l.length : Int) ≤ 40 ∧ (m.length : Int) ≤ 20) ∧ w1 = w') ⟨fun _ => ⟨fun e => (by cases e), rfl⟩, fun hc => ?_⟩ ?_
  · refine (few_c w1 t m 20 (hm.keepQ q1) (by decide) (by decide) hlm').use ?_
    rintro r' w2 ⟨hfew', rfl⟩
    exact ⟨fun e => ⟨(hfew (by simpa using hc)).1, (hfew' (by simpa using e)).1⟩, rfl⟩
  rintro c w4 ⟨hfw, rfl⟩
  refine ⟨fun _ => ⟨rfl, b1⟩, fun hc => ?_⟩
  obtain ⟨h40, h20⟩ := hfw hc
  refine (new_c w1).use ?_
  rintro r w3 ⟨vb, rfl, hv, q3, gv, lv⟩
  refine ⟨fun hc => by simp at hc, fun _ => ?_⟩
  have hs1 := b1.size
  have hs3 := q3.size
  have b3 : Below W.heap.size W w3 := b1.trans (q3.below hs1 (fun _ e => e.elim))
  have get : ∀ {i : Int} (l : List OpR), 0 ≤ i → i < l.length → ∃ x, l[i.toNat]? = some x := fun l h0 h1 => ⟨_, List.getElem?_eq_getElem (by omega)⟩
  refine ⟨fun i w => 0 ≤ i ∧ i ≤ l.length ∧ Below W.heap.size W w ∧ ∃ (O : Nat → Nat → Prop) (V : VS), Sep W.heap.size w O ∧ IsV w (O 0) vb V ∧ Fit V i.toNat ∧ ∀ k b, k ≠ 0 → ¬ O k b, fun i _ => (l.length - i).toNat,
    ⟨by omega, by omega, b3, updO noO 0 (fun b => b = vb), ⟨[], []⟩, (Sep.none _ w1).new hs1 hs3 fun b e => by omega, by simpa using hv, ⟨fun b hb => by simp at hb, by simp, by simp⟩, fun k b hk => by rw [updO_ne _ _ hk]; exact id⟩, ?_⟩
  rintro i w6 ⟨i0, i1, bel, O, V, sep, iv, fit, hno⟩
  have s6 := bel.size
  obtain ⟨fok, fg, fb⟩ := id fit
  refine ⟨fun hi => ?_, fun hi => ?_⟩
  · have hlt : i < l.length := by simpa [hsl] using hi
    refine (h.below bel hB).ix i0 hlt fun p x hx hat _ => hat.ld (j := 0) rfl (hat.ld (j := 1) rfl (hat.ld (j := 2) rfl (hat.ld (j := 3) rfl ?_)))
    refine (do_c w6 (O 0) vb V x iv fok (by omega) (by omega)).use ?_
    rintro r w7 ⟨rfl, F', iv7, st7⟩
    rw [w64 (by omega) (by omega)]
    refine ⟨⟨by omega, by omega, bel.trans (sep.below s6 st7.only), updO O 0 F', _, sep.step s6 st7, by rw [updO_same]; exact iv7, ?_, fun k b hk => by rw [updO_ne _ _ hk]; exact hno k b hk⟩, by (try dsimp only); omega⟩
    rw [show (i + 1).toNat = i.toNat + 1 by omega]
    exact fit.doo x
  -- the copy
  have hi40 : i.toNat ≤ 40 := by omega
  refine (copy_c w6 (O 0) vb V iv (by omega) (by omega)).use ?_
  rintro r w8 ⟨ub, F', rfl, iu, q8, hge⟩
  refine ⟨fun hc => by simp at hc, fun _ => ?_⟩
  have iv8 := iv.keepQ q8
  have b8 := bel.trans (Only.belowQ q8 s6)
  have sep8 : Sep W.heap.size w8 (updO O 1 F') := sep.new s6 q8.size hge
  have iv8' : IsV w8 ((updO O 1 F') 0) vb V := by rw [updO_ne _ _ (by decide)]; exact iv8
  have iu8' : IsV w8 ((updO O 1 F') 1) ub V := by rw [updO_same]; exact iu
  generalize updO O 1 F' = O8 at sep8 iv8' iu8'
  refine (keys_c w8 _ vb V iv8).use ?_
  rintro r w9 ⟨rfl, rfl⟩
  refine (boxes_c w8 _ vb V iv8).use ?_
  rintro r w10 ⟨rfl, rfl⟩
  refine ⟨fun (x : Sl × Int) w => 0 ≤ x.2 ∧ x.2 ≤ m.length ∧ Below W.heap.size W w ∧ ∃ (O : Nat → Nat → Prop), Sep W.heap.size w O ∧ IsV w (O 0) vb V ∧ IsV w (O 1) ub (V.runs (m.take x.2.toNat)) ∧ Fit (V.runs (m.take x.2.toNat)) (40 + x.2.toNat) ∧ OwnF w (O 2) 31 3 x.1 ((V.outs (m.take x.2.toNat)).flatMap cd), fun x _ => (m.length - x.2).toNat,
    ⟨by simp, by simp, b8, O8, sep8, iv8', by simpa [VS.runs] using iu8', by simpa [VS.runs] using ⟨fok, by omega, by omega⟩, by simpa [VS.outs] using OwnF.nil _ _ _ _⟩, ?_⟩
  rintro ⟨ws, j⟩ w11 ⟨j0, j1, bel11, O9, sep9, iv9, iu9, fit9, ow9⟩
  dsimp only at j0 j1 iu9 fit9 ow9 ⊢
  have s11 := bel11.size
  have lw := (ow9.rd cd3 (by decide)).len
  rw [outs_len, List.length_take] at lw
  obtain ⟨fok9, fg9, fb9⟩ := id fit9
  refine ⟨fun hj => ?_, fun hj => ?_⟩
  · have hlt : j < m.length := by simpa [htl] using hj
    refine (hm.below bel11 hBm).ix j0 hlt fun p x hx hat _ => hat.ld (j := 0) rfl (hat.ld (j := 1) rfl (hat.ld (j := 2) rfl (hat.ld (j := 3) rfl ?_)))
    refine (do_c w11 (O9 1) ub _ x iu9 fok9 (by omega) (by omega)).use ?_
    rintro r w12 ⟨rfl, F1, iu12, st12⟩
    have b12 := bel11.trans (sep9.below s11 st12.only)
    have sep12 := sep9.step s11 st12
    have iv12 : IsV w12 ((updO O9 1 F1) 0) vb V := by rw [updO_ne _ _ (by decide)]; exact iv9.keep st12.only (sep9.ne (by decide))
    have iu12' : IsV w12 ((updO O9 1 F1) 1) ub ((V.runs (m.take j.toNat)).doo x).1 := by rw [updO_same]; exact iu12
    have ow12 : OwnF w12 ((updO O9 1 F1) 2) 31 3 ws ((V.outs (m.take j.toNat)).flatMap cd) := by rw [updO_ne _ _ (by decide)]; exact ow9.keep st12.only (sep9.ne (by decide))
    generalize updO O9 1 F1 = O12 at *
    have s12 := b12.size
    refine OwnF.push ap_done ow12 (news := cd ((V.runs (m.take j.toNat)).doo x).2) rfl rfl (by unfold maxLen; omega) (by omega) fun r w14 F2 ow14 hl14 st14 => ?_
    rw [w64 (by omega) (by omega)]
    refine ⟨⟨by (try dsimp only); omega, by (try dsimp only); omega, b12.trans (sep12.below s12 st14.only), updO O12 2 F2, sep12.step s12 st14, ?_, ?_, ?_, ?_⟩, by (try dsimp only); omega⟩
    · rw [updO_ne _ _ (by decide)]; exact iv12.keep st14.only (sep12.ne (by decide))
    · rw [updO_ne _ _ (by decide), show (j + 1).toNat = j.toNat + 1 by omega, take_next hx, runs_snoc]; exact iu12'.keep st14.only (sep12.ne (by decide))
    · rw [show (j + 1).toNat = j.toNat + 1 by omega, take_next hx, runs_snoc]
      exact fit9.doo x
    · rw [updO_same, show (j + 1).toNat = j.toNat + 1 by omega, take_next hx, outs_snoc]
      simpa using ow14
  have hend : j.toNat = m.length := by simp [htl] at hj; omega
  rw [hend, List.take_length] at iu9 ow9
  refine (keys_c w11 _ vb V iv9).use ?_
  rintro r w15 ⟨rfl, rfl⟩
  refine jn.in_ ⟨fun hc => absurd hc (by simp), fun _ => ?_⟩
  refine (boxes_c w11 _ vb V iv9).use ?_
  rintro r w15 ⟨rfl, rfl⟩
  refine ⟨fun hc => absurd hc (by simp), fun _ => ?_⟩
  refine ⟨fun k w => 0 ≤ k ∧ k ≤ m.length ∧ Below W.heap.size W w ∧ ∃ (O : Nat → Nat → Prop), Sep W.heap.size w O ∧ IsV w (O 0) vb (V.runs (m.take k.toNat)) ∧ Fit (V.runs (m.take k.toNat)) (40 + k.toNat) ∧ IsV w (O 1) ub (V.runs m) ∧ OwnF w (O 2) 31 3 ws ((V.outs m).flatMap cd), fun k _ => (m.length - k).toNat,
    ⟨by omega, by omega, bel11, O9, sep9, by simpa [VS.runs] using iv9, by simpa [VS.runs] using ⟨fok, by omega, by omega⟩, iu9, ow9⟩, ?_⟩
  rintro k w18 ⟨k0, k1, bel18, O18, sep18, iv18, fit18, iu18, ow18⟩
  obtain ⟨fok18, fg18, fb18⟩ := id fit18
  have s18 := bel18.size
  refine ⟨fun hk => ?_, fun hk => ?_⟩
  · have hlt : k < m.length := by simpa [htl] using hk
    refine jn.mk (fun c w' => c = false ∧ 0 ≤ k + 1 ∧ k + 1 ≤ m.length ∧ Below W.heap.size W w' ∧ ∃ (O : Nat → Nat → Prop), Sep W.heap.size w' O ∧ IsV w' (O 0) vb (V.runs (m.take (k + 1).toNat)) ∧ Fit (V.runs (m.take (k + 1).toNat)) (40 + (k + 1).toNat) ∧ IsV w' (O 1) ub (V.runs m) ∧ OwnF w' (O 2) 31 3 ws ((V.outs m).flatMap cd)) ?_ ?_
    · show tk w18 _
      unfold tk
      have qd : Quiet w18 w18.drew := Only.drew _ _
      have belD : Below W.heap.size W w18.drew := bel18.drew
      have sepD : Sep W.heap.size w18.drew O18 := sep18.size qd.size
      refine (hm.below belD hBm).ix k0 hlt fun p x hx hat _ => hat.ld (j := 0) rfl (hat.ld (j := 1) rfl (hat.ld (j := 2) rfl (hat.ld (j := 3) rfl ?_)))
      have owD := ow18.keepQ qd
      refine (owD.rd cd3 (by decide)).ix k0 (by rw [outs_len]; exact hlt) fun p' y hy hat' hp' => hat'.ld (j := 0) rfl (hat'.ld (j := 1) rfl (hat'.ld (j := 2) rfl ?_))
      rw [outs_get V m k.toNat x hx] at hy
      injection hy with hy
      subst hy
      refine (do_c _ (O18 0) vb _ x (iv18.keepQ qd) fok18 (by omega) (by omega)).use ?_
      rintro r w20 ⟨rfl, F1, iv20, st20⟩
      have at20 := AtC.keep hat' st20.only (by
        obtain ⟨ad, had, rfl⟩ := hp'
        rw [add_block]
        exact sepD.ne (i := 2) (j := 0) (by decide) _ (owD.blk _ (by simp [Sl.blk, had])))
      refine ⟨⟨at20 0 _ rfl, at20 1 _ rfl, at20 2 _ rfl⟩, by simp [beqS_eq], by omega, by omega, belD.trans (sepD.below belD.size st20.only), updO O18 0 F1, sepD.step belD.size st20, ?_, ?_, ?_, ?_⟩
      · rw [updO_same, show (k + 1).toNat = k.toNat + 1 by omega, take_next hx, runs_snoc]
        exact iv20
      · rw [show (k + 1).toNat = k.toNat + 1 by omega, take_next hx, runs_snoc]
        exact fit18.doo x
      · rw [updO_ne _ _ (by decide)]; exact (iu18.keepQ qd).keep st20.only (sepD.ne (by decide))
      · rw [updO_ne _ _ (by decide)]; exact owD.keep st20.only (sepD.ne (by decide))
    · rintro c w' ⟨rfl, hT⟩
      refine ⟨fun hc => by simp at hc, fun _ => ?_⟩
      rw [w64 (by omega) (by omega)]
      exact ⟨hT, by (try dsimp only); omega⟩
  have hend : k.toNat = m.length := by simp [htl] at hk; omega
  rw [hend, List.take_length] at iv18
  refine jn.in_ ⟨fun _ => ?_, fun hc => absurd hc (by decide)⟩
  refine (keys_c w18 _ vb _ iv18).use ?_
  rintro r w15 ⟨rfl, rfl⟩
  refine (keys_c w18 _ ub _ iu18).use ?_
  rintro r w15 ⟨rfl, rfl⟩
  refine jn.in_ ⟨fun _ => ?_, fun hc => absurd hc (by simp)⟩
  refine (boxes_c w18 _ vb _ iv18).use ?_
  rintro r w15 ⟨rfl, rfl⟩
  refine (boxes_c w18 _ ub _ iu18).use ?_
  rintro r w15 ⟨rfl, rfl⟩
  exact ⟨by simp, bel18⟩
end Go.Proofs.Ytfmimbcljhjflaa
