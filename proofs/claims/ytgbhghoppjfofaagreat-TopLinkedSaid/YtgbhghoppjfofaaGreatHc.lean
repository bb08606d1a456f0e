import Derived.Test.YtgbhghoppjfofaaGreatOc
namespace Go.Proofs.YtgbhghoppjfofaaGreat
open Go.Dec Go.RowKit Go.Top
set_option maxHeartbeats 2000000
set_option maxRecDepth 10000

/-! ### a link with what it loses -/
structure IsHop (w : World) (F : Nat → Prop) (b bs br : Nat) (S : SS) (R : RS) (sl : Sl) (at_ : Int) : Prop where
  ex : ∃ Fs Fr, Blk w b 33 #[.pointer (some ⟨bs, 0, none⟩), .pointer (some ⟨br, 0, none⟩), sl.v, .int .i64 at_] ∧ IsS w Fs bs S ∧ IsR w Fr br R ∧ F b ∧ (∀ x, Fs x → F x) ∧ (∀ x, Fr x → F x) ∧ ¬ Fs b ∧ ¬ Fr b ∧ (∀ x, Fs x → ¬ Fr x)
  lt : ∀ x, F x → x < w.heap.size
theorem IsHop.keep {w w' : World} {F G : Nat → Prop} {b bs br : Nat} {S : SS} {R : RS} {sl : Sl} {at_ : Int} (h : IsHop w F b bs br S R sl at_) (ho : Only G w w') (hd : ∀ x, F x → ¬ G x) : IsHop w' F b bs br S R sl at_ := by
  obtain ⟨Fs, Fr, h1, h2, h3, h4, h5, h6, h7⟩ := h.ex
  exact ⟨⟨Fs, Fr, h1.keep ho (hd _ h4), h2.keep ho fun x hx => hd x (h5 x hx), h3.keep ho fun x hx => hd x (h6 x hx), h4, h5, h6, h7⟩, fun x hx => Nat.lt_of_lt_of_le (h.lt x hx) ho.size⟩
theorem IsHop.keepQ {w w' : World} {F : Nat → Prop} {b bs br : Nat} {S : SS} {R : RS} {sl : Sl} {at_ : Int} (h : IsHop w F b bs br S R sl at_) (ho : Quiet w w') : IsHop w' F b bs br S R sl at_ := h.keep ho fun _ _ => id
/-- the sender's step -/
theorem IsHop.stepS {w : World} {F : Nat → Prop} {b bs br : Nat} {S S' : SS} {R : RS} {sl : Sl} {at_ : Int} (h : IsHop w F b bs br S R sl at_) {K : Prop}
    (k : ∀ Fs, IsS w Fs bs S → (∀ w', ∀ Fs', IsS w' Fs' bs S' → Stp Fs w Fs' w' → ∃ F', IsHop w' F' b bs br S' R sl at_ ∧ Stp F w F' w') → K) : K := by
  obtain ⟨Fs, Fr, h1, h2, h3, h4, h5, h6, h7, h8, h9⟩ := h.ex
  refine k Fs h2 fun w' Fs' hs st => ?_
  have hsz := st.only.size
  have hn : ∀ x, Fs' x → ¬ Fs x → w.heap.size ≤ x := fun x hx hnx => by
    rcases st.sub x hx with e | e
    · exact absurd e hnx
    · exact e.1
  refine ⟨fun x => (F x ∧ ¬ Fs x) ∨ Fs' x, ⟨⟨Fs', Fr, h1.keep st.only h7, hs, h3.keep st.only fun x hx hxs => h9 x hxs hx, .inl ⟨h4, h7⟩, fun x => .inr, fun x hx => .inl ⟨h6 x hx, fun e => h9 x e hx⟩, fun e => ?_, h8, fun x hx hr => ?_⟩, fun x hx => ?_⟩, ⟨st.only.mono fun x _ hx => h5 x hx, fun x hx => ?_⟩⟩
  · have := hn b e h7
    have := h.lt b h4
    omega
  · by_cases e : Fs x
    · exact h9 x e hr
    · have := hn x hx e
      have := h.lt x (h6 x hr)
      omega
  · rcases hx with hx | hx
    · exact Nat.lt_of_lt_of_le (h.lt x hx.1) hsz
    · exact hs.lt x hx
  · rcases hx with hx | hx
    · exact .inl hx.1
    · rcases st.sub x hx with e | e
      · exact .inl (h5 x e)
      · exact .inr e
/-- the receiver's step -/
theorem IsHop.stepR {w : World} {F : Nat → Prop} {b bs br : Nat} {S : SS} {R R' : RS} {sl : Sl} {at_ : Int} (h : IsHop w F b bs br S R sl at_) {K : Prop}
    (k : ∀ Fr, IsR w Fr br R → (∀ x, Fr x → F x) → (∀ w', ∀ Fr', IsR w' Fr' br R' → Stp Fr w Fr' w' → ∃ F', IsHop w' F' b bs br S R' sl at_ ∧ Stp F w F' w') → K) : K := by
  obtain ⟨Fs, Fr, h1, h2, h3, h4, h5, h6, h7, h8, h9⟩ := h.ex
  refine k Fr h3 h6 fun w' Fr' hr st => ?_
  have hsz := st.only.size
  have hn : ∀ x, Fr' x → ¬ Fr x → w.heap.size ≤ x := fun x hx hnx => by
    rcases st.sub x hx with e | e
    · exact absurd e hnx
    · exact e.1
  refine ⟨fun x => (F x ∧ ¬ Fr x) ∨ Fr' x, ⟨⟨Fs, Fr', h1.keep st.only h8, h2.keep st.only fun x hx hxs => h9 x hx hxs, hr, .inl ⟨h4, h8⟩, fun x hx => .inl ⟨h5 x hx, fun e => h9 x hx e⟩, fun x => .inr, h7, fun e => ?_, fun x hx hr' => ?_⟩, fun x hx => ?_⟩, ⟨st.only.mono fun x _ hx => h6 x hx, fun x hx => ?_⟩⟩
  · have := hn b e h8
    have := h.lt b h4
    omega
  · by_cases e : Fr x
    · exact h9 x hx e
    · have := hn x hr' e
      have := h.lt x (h5 x hx)
      omega
  · rcases hx with hx | hx
    · exact Nat.lt_of_lt_of_le (h.lt x hx.1) hsz
    · exact hr.lt x hx
  · rcases hx with hx | hx
    · exact .inl hx.1
    · rcases st.sub x hx with e | e
      · exact .inl (h6 x e)
      · exact .inr e
theorem lost_c (W w : World) (F : Nat → Prop) (b bs br : Nat) (S : SS) (R : RS) (sl : Sl) (at_ : Int) (loss : List Bool) (h : IsHop w F b bs br S R sl at_) (hl : Rd W cbo 1 sl loss) (q : Quiet W w) (hF : ∀ x, F x → W.heap.size ≤ x) (h0 : 0 ≤ at_) (h1 : at_ ≤ 10000000) :
    callC Tryz.prog 26 #[.pointer (some ⟨b, 0, none⟩)] (fun (r : Bool) => .bool r) w fun r w' => (r = true → at_ < loss.length) ∧ IsHop w' F b bs br S R sl (at_ + 1) ∧ Only F w w' := by
  have hll := hl.len
  obtain ⟨Fs, Fr, hb, h2, h3, h4, h5, h6, h7, h8, h9⟩ := h.ex
  refine D26 _ w _ ?_
  unfold F26
  refine nn_ (Blk.ld (i := 3) (o := 0) hb rfl (nn_ (Blk.st (i := 3) (o := 0) hb (show 0 + 3 + 1 ≤ 4 by decide) fun w1 hb1 on1 s1 => ?_)))
  rw [w64 (by omega) (by omega)] at hb1
  have hb1 : Blk w1 b 33 #[.pointer (some ⟨bs, 0, none⟩), .pointer (some ⟨br, 0, none⟩), sl.v, .int .i64 (at_ + 1)] := by simpa [splice] using hb1
  have onF : Only F w w1 := on1.mono fun x _ e => by subst e; exact h4
  have H1 : IsHop w1 F b bs br S R sl (at_ + 1) := ⟨⟨Fs, Fr, hb1, h2.keep on1 fun x hx e => h7 (e ▸ hx), h3.keep on1 fun x hx e => h8 (e ▸ hx), h4, h5, h6, h7, h8, h9⟩, fun x hx => by have := h.lt x hx; omega⟩
  refine jn.mk (fun c w' => c = decide ((loss.length : Int) < at_ + 1) ∧ Quiet w1 w') ?_ ?_
  · show Go.Dec.tk _ _
    unfold Go.Dec.tk
    have hbd := hb1.keepQ (Only.drew _ _)
    exact nn_ (Blk.ld (i := 3) (o := 0) (x := at_ + 1) hbd rfl (nn_ (Blk.ld (i := 2) (o := 0) (x := sl) hbd rfl ⟨by rw [hll], Only.drew _ _⟩)))
  rintro c w3 ⟨rfl, q3⟩
  refine ⟨fun _ => ⟨fun e => (by cases e), H1.keepQ q3, onF.then_ q3 fun _ _ e => e.elim⟩, fun g => ?_⟩
  have hlt : at_ < loss.length := by have := of_decide_eq_false g; omega
  obtain ⟨x, hx⟩ := getq h0 hlt
  have hR : Rd w3 cbo 1 sl loss := hl.keepQ ((q.new onF hF).tr q3)
  refine jn.mk (fun _ w' => Quiet w3 w') ?_ ?_
  · show Go.Dec.tk _ _
    unfold Go.Dec.tk
    have hbd := (hb1.keepQ q3).keepQ (Only.drew (fun _ => False) w3)
    refine nn_ (Blk.ld (i := 2) (o := 0) (x := sl) hbd rfl (nn_ (Blk.ld (i := 3) (o := 0) (x := at_ + 1) hbd rfl ?_)))
    rw [w64 (by omega) (by omega)]
    exact (hR.keepQ (Only.drew _ _)).ixx (by omega) (x := x) (by rw [show (at_ + 1 - 1).toNat = at_.toNat by omega]; exact hx) fun p hat _ => hat.ld0 rfl (Only.drew _ _)
  · rintro c w5 q5
    exact ⟨fun _ => hlt, H1.keepQ (q3.tr q5), (onF.then_ q3 fun _ _ e => e.elim).then_ q5 fun _ _ e => e.elim⟩
theorem seqI_app : ∀ (n m : Nat) (a : Int), seqI a n ++ seqI (a + n) m = seqI a (n + m)
  | 0, m, a => by simp [seqI]
  | n + 1, m, a => by
    have := seqI_app n m (a + 1)
    rw [show n + 1 + m = (n + m) + 1 by omega]
    simp only [seqI, List.cons_append, ← this]
    rw [show a + 1 + (n : Int) = a + ((n + 1 : Nat) : Int) by omega]
theorem got_seq (Q : RS) (f : Int) : Q.got f = seqI Q.R ((Q.take f).R - Q.R).toNat := by
  unfold RS.got RS.take
  split
  · rw [Int.sub_self]
    rfl
  · have : ((Q.mark f).fin.R - Q.R).toNat = lead (Q.mark f).H := by
      show (Q.R + _ - Q.R).toNat = _
      omega
    rw [this]
theorem lead_pos {l : List Bool} (h : l[0]? = some true) : 1 ≤ lead l := by
  cases l with
  | nil => simp at h
  | cons b r =>
    simp at h
    subst h
    simp [lead]
/-- the oldest frame moves the receiver on -/
theorem take_base {S : SS} {Q : RS} (h : Lk S Q) : S.B + 1 ≤ (Q.take S.B).R := by
  have hw := h.qo.w0
  have hb := h.bR
  have hm := (RS.take_R h.qo S.B).1
  by_cases e : Q.R = S.B
  · have ho : ¬ Q.out S.B := by unfold RS.out; omega
    unfold RS.take
    rw [if_neg ho]
    have hl : 1 ≤ lead (Q.mark S.B).H := by
      apply lead_pos
      unfold RS.mark
      dsimp only
      have hh := h.qo.h
      rw [show (S.B - Q.R).toNat = 0 by omega, List.getElem?_set_self (by omega)]
    show S.B + 1 ≤ Q.R + _
    omega
  · omega
theorem Stp_new {F F' G : Nat → Prop} {w w' w'' : World} (st : Stp F w F' w') (on : Only G w' w'') (hG : ∀ x, G x → w.heap.size ≤ x) : Stp F w F' w'' :=
  ⟨st.only.then_ on fun b hb e => by have := hG b e; omega, fun x hx => (st.sub x hx).imp id fun e => ⟨e.1, Nat.lt_of_lt_of_le e.2 on.size⟩⟩
theorem frames_at (S : SS) {j : Nat} (h : j < S.frames.length) : S.frames[j]? = some (S.B + j) := by
  rw [S.frames_len] at h
  unfold SS.frames
  exact seqI_get h
theorem round_c (W w : World) (F : Nat → Prop) (b bs br : Nat) (S : SS) (R : RS) (sl : Sl) (at_ : Int) (loss : List Bool) (h : IsHop w F b bs br S R sl at_) (hl : Rd W cbo 1 sl loss) (q : Quiet W w) (hF : ∀ x, F x → W.heap.size ≤ x) (L : Lk S R) (h0 : 0 ≤ at_) (h1 : at_ ≤ 1000000) :
    callC Tryz.prog 9 #[.pointer (some ⟨b, 0, none⟩)] (fun (r : Sl × Bool) => .tuple #[r.1.v, .bool r.2]) w fun r w' => r.2 = true ∧ ∃ (S' : SS) (R' : RS) (a' : Int) (F' G : Nat → Prop),
      IsHop w' F' b bs br S' R' sl a' ∧ Lk S' R' ∧ S'.N = S.N ∧ S.B ≤ S'.B ∧ R.R ≤ R'.R ∧ at_ ≤ a' ∧ a' ≤ at_ + 256 ∧ Stp F w F' w' ∧ OwnF w' G 3 1 r.1 ((seqI R.R (R'.R - R.R).toNat).flatMap ci) ∧ (∀ x, G x → w.heap.size ≤ x ∧ x < w'.heap.size) ∧ (∀ x, G x → ¬ F' x) ∧
      (S.B < S.N → S.B < S'.B ∨ (at_ < loss.length ∧ at_ < a')) := by
  have hk := L.so
  obtain ⟨k0, k1, k2, k3, k4⟩ := L.so
  refine D9 _ w _ ?_
  unfold F9
  obtain ⟨Fs0, Fr0, hb0, hs0, _⟩ := h.ex
  refine nn_ (Blk.ld (i := 0) (o := 0) (x := some (⟨bs, 0, none⟩ : Addr)) hb0 rfl ((frames_c w Fs0 bs S hs0 hk).use ?_))
  rintro r11 w1 ⟨Gf, of, ff⟩
  have hfl : S.frames.length = (min S.W (S.N - S.B)).toNat := S.frames_len
  have hr11 : r11.len = S.frames.length := (of.rd ci1 (by decide)).len
  have hm : (S.frames.length : Int) = min S.W (S.N - S.B) := by omega
  have q1 := q.tr ff.q
  have h1' := h.keepQ ff.q
  have hFG : ∀ x, F x → ¬ Gf x := fun x e1 e2 => by
    have := h.lt x e1
    have := (ff.b x e2).1
    omega
  rw [hr11, w64 (by omega) (by omega)]
  refine ⟨fun c w' => 0 ≤ c.2 ∧ c.2 ≤ 2 * S.frames.length ∧ ∃ (S' : SS) (R' : RS) (a' : Int) (F' G : Nat → Prop), IsHop w' F' b bs br S' R' sl a' ∧ Lk S' R' ∧ S'.N = S.N ∧ S'.W = S.W ∧ S.B ≤ S'.B ∧ R.R ≤ R'.R ∧ at_ + c.2 ≤ a' ∧ a' ≤ at_ + 2 * c.2 ∧ Stp F w F' w' ∧
      OwnF w' G 3 1 c.1 ((seqI R.R (R'.R - R.R).toNat).flatMap ci) ∧ (∀ x, G x → w1.heap.size ≤ x ∧ x < w'.heap.size) ∧ (∀ x, G x → ¬ F' x) ∧ OwnF w' Gf 3 1 r11 (S.frames.flatMap ci) ∧ (∀ x, F' x → ¬ Gf x) ∧ w1.heap.size ≤ w'.heap.size ∧ (loss.length ≤ at_ → S.frames.length ≤ c.2 → S.B + 1 ≤ S'.B ∨ S.frames.length = 0),
    fun c _ => (2 * (S.frames.length : Int) - c.2).toNat, ⟨Int.le_refl _, by (try dsimp only); omega, S, R, at_, F, fun _ => False, h1', L, rfl, rfl, Int.le_refl _, Int.le_refl _, by (try dsimp only); omega, by (try dsimp only); omega, (Stp.quiet ff.q), by rw [Int.sub_self]; exact OwnF.nil _ _ _ _, fun _ e => e.elim, fun _ e => e.elim, of, hFG, Nat.le_refl _, fun _ e => .inr (by (try dsimp only at e); omega)⟩, ?_⟩
  rintro ⟨out, i⟩ w2 ⟨i0, i1, S1, R1, a1, F1, G1, H1, L1, hN1, hW1, hB1, hR1, ha1, ha1', st1, o1, hG1, hGF1, of1, hFf1, hsz1, hpr1⟩
  dsimp only at i0 i1 ha1 ha1' o1 hpr1 ⊢
  have hF1 : ∀ x, F1 x → W.heap.size ≤ x := fun x hx => by
    rcases st1.sub x hx with e | e
    · exact hF x e
    · have := q.size
      omega
  have q2 : Quiet W w2 := q.new st1.only hF
  refine ⟨fun hi => ?_, fun hi => ?_⟩
  · have hi : i < 2 * S.frames.length := of_decide_eq_true hi
    have hmp : 0 < (S.frames.length : Int) := by omega
    have hoff : (out.len : Int) = R1.R - R.R := by
      have := (o1.rd ci1 (by decide)).len
      rw [seqI_len] at this
      omega
    have hRN : R1.R ≤ 900 := by have := L1.rN; have := L1.so.n1; omega
    have hR0 : 0 ≤ R.R := L.qo.r0
    -- what one frame does
    refine jn.mk (fun out' w' => ∃ (S' : SS) (R' : RS) (a' : Int) (F' G : Nat → Prop), IsHop w' F' b bs br S' R' sl a' ∧ Lk S' R' ∧ S'.N = S.N ∧ S'.W = S.W ∧ S.B ≤ S'.B ∧ R.R ≤ R'.R ∧ at_ + (i + 1) ≤ a' ∧ a' ≤ at_ + 2 * (i + 1) ∧ Stp F w F' w' ∧
      OwnF w' G 3 1 out' ((seqI R.R (R'.R - R.R).toNat).flatMap ci) ∧ (∀ x, G x → w1.heap.size ≤ x ∧ x < w'.heap.size) ∧ (∀ x, G x → ¬ F' x) ∧ OwnF w' Gf 3 1 r11 (S.frames.flatMap ci) ∧ (∀ x, F' x → ¬ Gf x) ∧ w1.heap.size ≤ w'.heap.size ∧ (loss.length ≤ at_ → S.frames.length ≤ i + 1 → S.B + 1 ≤ S'.B ∨ S.frames.length = 0)) ?_ ?_
    · refine (lost_c W w2 F1 b bs br S1 R1 sl a1 loss H1 hl q2 hF1 (by omega) (by omega)).use ?_
      rintro lost w4 ⟨hlost, H4, on4⟩
      have o4 := o1.keep on4 hGF1
      have of4 := of1.keep on4 fun x e1 e2 => hFf1 x e2 e1
      have st4 : Stp F w F1 w4 := st1.trans ⟨on4, fun x e => .inl e⟩
      have hs24 := on4.size
      refine ⟨fun g => ⟨S1, R1, a1 + 1, F1, G1, H4, L1, hN1, hW1, hB1, hR1, by omega, by omega, st4, o4, fun x e => ⟨(hG1 x e).1, by have := (hG1 x e).2; omega⟩, hGF1, of4, hFf1, by omega, fun e _ => by have := hlost g; omega⟩, fun g => ?_⟩
      -- the frame
      have hmod0 := Int.emod_nonneg i (show (S.frames.length : Int) ≠ 0 by omega)
      have hmod1 := Int.emod_lt_of_pos i hmp
      have htm : i.tmod (S.frames.length : Int) = i % (S.frames.length : Int) := Int.tmod_eq_emod_of_nonneg i0
      have hj : (S.frames.length - 1 - i % (S.frames.length : Int)).toNat < S.frames.length := by omega
      have hf := frames_at S hj
      obtain ⟨f, hfv⟩ : ∃ f, f = S.B + ((S.frames.length - 1 - i % (S.frames.length : Int)).toNat : Int) := ⟨_, rfl⟩
      rw [← hfv] at hf
      have hfm := frames_mem hk (List.mem_of_getElem? hf)
      have Lt := L1.take (f := f) (by omega) (by omega)
      have hT := RS.take_R L1.qo f
      refine IsHop.stepR (R' := R1.take f) H4 fun Fr hr hFrF hstep => ?_
      obtain ⟨_, _, hb4, _⟩ := H4.ex
      refine jn.mk (fun c w' => c.2 = (R1.take f).R ∧ ∃ (F5 G5 : Nat → Prop), IsHop w' F5 b bs br S1 (R1.take f) sl (a1 + 1) ∧ Stp F1 w4 F5 w' ∧ OwnF w' G5 3 1 c.1 ((R1.got f).flatMap ci) ∧ (∀ x, G5 x → w4.heap.size ≤ x ∧ x < w'.heap.size)) ?_ ?_
      · show Go.Dec.tk _ _
        unfold Go.Dec.tk
        have qd : Quiet w4 w4.drew := Only.drew _ _
        refine nn_ (Blk.ld (i := 1) (o := 0) (x := some (⟨br, 0, none⟩ : Addr)) (hb4.keepQ qd) rfl ⟨by omega, ?_⟩)
        rw [htm, w64 (x := (S.frames.length : Int) - 1) (by omega) (by omega), w64 (by omega) (by omega)]
        refine ((of4.keepQ qd).rd ci1 (by decide)).ixx (by omega) hf fun p hat _ => hat.ld0 rfl ((take_c _ Fr br R1 f (hr.keepQ qd) L1.qo (by omega)).use ?_)
        rintro ⟨g1, ack⟩ w6 ⟨hack, hr6, str, G5, o6, hG5⟩
        have str' : Stp Fr w4 Fr w6 := (Stp.quiet qd).trans str
        obtain ⟨F5, H5, st5⟩ := hstep w6 Fr hr6 str'
        exact ⟨hack, F5, G5, H5, st5, o6, hG5⟩
      rintro ⟨g1, ack⟩ w7 ⟨hack, F5, G5, H5, st5, o7, hG5⟩
      dsimp only at hack o7 ⊢
      subst hack
      have hFG5 : ∀ x, F1 x → ¬ G5 x := fun x e1 e2 => by
        have := H4.lt x e1
        have := (hG5 x e2).1
        omega
      have o17 := o4.keep st5.only hGF1
      have of7 := of4.keep st5.only fun x e1 e2 => hFf1 x e2 e1
      have hFf5 : ∀ x, F5 x → ¬ Gf x := st5.dj (fun x e => by have := (ff.b x e).2; omega) hFf1
      have hFo5 : ∀ x, F5 x → ¬ G1 x := st5.dj (fun x e => by have := (hG1 x e).2; omega) fun x e1 e2 => hGF1 x e2 e1
      have st7 : Stp F w F5 w7 := st4.trans st5
      have hs47 := st5.only.size
      have hl1 : g1.len = (R1.got f).length := (o7.rd ci1 (by decide)).len
      have hgl := got_len (Q := R1) f
      refine OwnF.app apI o17 (o7.rd ci1 (by decide)) ci1 (by decide) cione (by unfold maxLen; omega) (by omega) fun r27 w8 G6 o8 _ st8 => ?_
      have hs78 := st8.only.size
      have hw1 : w.heap.size ≤ w1.heap.size := ff.q.size
      have o8' : OwnF w8 G6 3 1 r27 ((seqI R.R ((R1.take f).R - R.R).toNat).flatMap ci) := by
        rw [got_seq, ← List.flatMap_append] at o8
        have e : seqI R.R (R1.R - R.R).toNat ++ seqI R1.R ((R1.take f).R - R1.R).toNat = seqI R.R ((R1.take f).R - R.R).toNat := by
          have := seqI_app (R1.R - R.R).toNat ((R1.take f).R - R1.R).toNat R.R
          rw [show R.R + ((R1.R - R.R).toNat : Int) = R1.R by omega] at this
          rw [this]
          congr 1
          omega
        rwa [e] at o8
      have H8 := H5.keep st8.only hFo5
      have of8 := of7.keep st8.only fun x e1 e2 => by
        have := (ff.b x e1).2
        have := (hG1 x e2).1
        omega
      have st8' : Stp F w F5 w8 := Stp_new st7 st8.only fun x e => by have := (hG1 x e).1; omega
      have hF5 : ∀ x, F5 x → W.heap.size ≤ x := fun x hx => by
        rcases st8'.sub x hx with e | e
        · exact hF x e
        · have := q.size
          omega
      have hG6 : ∀ x, G6 x → w1.heap.size ≤ x ∧ x < w8.heap.size := fun x e => by
        rcases st8.sub x e with e | e
        · have := hG1 x e
          omega
        · omega
      have hGF6 : ∀ x, G6 x → ¬ F5 x := fun x e1 e2 => by
        rcases st8.sub x e1 with e | e
        · exact hFo5 x e2 e
        · have := H5.lt x e2
          omega
      refine (lost_c W w8 F5 b bs br S1 (R1.take f) sl (a1 + 1) loss H8 hl (q.new st8'.only hF) hF5 (by omega) (by omega)).use ?_
      rintro lost2 w9 ⟨hlost2, H9, on9⟩
      have hs89 := on9.size
      have st9 : Stp F w F5 w9 := st8'.trans ⟨on9, fun x e => .inl e⟩
      have o9 := o8'.keep on9 hGF6
      have of9 := of8.keep on9 fun x e1 e2 => hFf5 x e2 e1
      have hack := Lt.ack (n := (R1.take f).R) Lt.qo.r0 (Int.le_refl _)
      refine jn.mk (fun c w' => c = false ∧ ∃ (S2 : SS) (F7 : Nat → Prop), IsHop w' F7 b bs br S2 (R1.take f) sl (a1 + 1 + 1) ∧ Lk S2 (R1.take f) ∧ S2.N = S1.N ∧ S2.W = S1.W ∧ S1.B ≤ S2.B ∧ (lost2 = false → (R1.take f).R ≤ S2.B) ∧ Stp F5 w9 F7 w') ⟨fun g2 => ?_, fun g2 => ⟨rfl, S1, F5, H9, Lt, rfl, rfl, Int.le_refl _, fun e => (by rw [e] at g2; cases g2), ⟨Only.refl _ _, fun x e => .inl e⟩⟩⟩ ?_
      · obtain ⟨_, _, hb9, _⟩ := H9.ex
        refine nn_ (Blk.ld (i := 0) (o := 0) (x := some (⟨bs, 0, none⟩ : Addr)) hb9 rfl (IsHop.stepS (S' := S1.ack (R1.take f).R) H9 fun Fs hs hstep => (ack_c w9 Fs bs S1 _ hs L1.so).use ?_))
        rintro r w10 ⟨rfl, hs10, sts⟩
        obtain ⟨F7, H10, st10⟩ := hstep w10 Fs hs10 sts
        rw [hack.1]
        exact ⟨rfl, _, F7, H10, hack.2.1, hack.2.2.2.1, hack.2.2.2.2, by rw [hack.2.2.1]; omega, fun _ => by rw [hack.2.2.1]; omega, st10⟩
      rintro c w11 ⟨rfl, S2, F7, H11, L2, hN2, hW2, hB2, hR2, st11⟩
      refine ⟨fun e => (by cases e), fun _ => ?_⟩
      have hs911 := st11.only.size
      have hF7f : ∀ x, F7 x → ¬ Gf x := st11.dj (fun x e => by have := (ff.b x e).2; omega) hFf5
      have hF7o : ∀ x, F7 x → ¬ G6 x := st11.dj (fun x e => by have := (hG6 x e).2; omega) fun x e1 e2 => hGF6 x e2 e1
      refine ⟨S2, R1.take f, a1 + 1 + 1, F7, G6, H11, L2, by omega, by omega, by omega, by omega, by omega, by omega, st9.trans st11, o9.keep st11.only hGF6, fun x e => ⟨(hG6 x e).1, by have := (hG6 x e).2; omega⟩, fun x e1 e2 => hF7o x e2 e1, of9.keep st11.only fun x e1 e2 => hFf5 x e2 e1, hF7f, by omega, fun hno hfr => ?_⟩
      have hl2 : lost2 = false := by
        cases lost2 with
        | false => rfl
        | true =>
          have := hlost2 rfl
          omega
      have hr2 := hR2 hl2
      by_cases hold : S.frames.length ≤ i
      · rcases hpr1 hno hold with e | e
        · exact .inl (by omega)
        · exact .inr e
      · have hi1 : i = S.frames.length - 1 := by omega
        have hmi : i % (S.frames.length : Int) = i := Int.emod_eq_of_lt i0 (by omega)
        rw [hmi] at hfv
        have hfB : f = S.B := by omega
        by_cases e : S1.B = S.B
        · have := take_base L1
          rw [e, ← hfB] at this
          exact .inl (by omega)
        · exact .inl (by omega)
    rintro out' w3 ⟨S2, R2, a2, F2, G2, H2, L2, hN2, hW2, hB2, hR2, ha2, ha2', st2, o2, hG2, hGF2, of2, hFf2, hsz2, hpr2⟩
    rw [w64 (by omega) (by omega)]
    exact ⟨⟨by (try dsimp only); omega, by (try dsimp only); omega, S2, R2, a2, F2, G2, H2, L2, hN2, hW2, hB2, hR2, ha2, ha2', st2, o2, hG2, hGF2, of2, hFf2, hsz2, hpr2⟩, by (try dsimp only); omega⟩
  · have hi : ¬ i < 2 * S.frames.length := of_decide_eq_false hi
    have hw1 : w.heap.size ≤ w1.heap.size := ff.q.size
    refine ⟨rfl, S1, R1, a1, F1, G1, H1, L1, hN1, hB1, hR1, by omega, by omega, st1, o1, fun x e => ⟨by have := (hG1 x e).1; omega, (hG1 x e).2⟩, hGF1, fun hlt => ?_⟩
    by_cases hno : loss.length ≤ at_
    · rcases hpr1 hno (by omega) with e | e
      · exact .inl (by omega)
      · omega
    · exact .inr ⟨by omega, by omega⟩
end Go.Proofs.YtgbhghoppjfofaaGreat
