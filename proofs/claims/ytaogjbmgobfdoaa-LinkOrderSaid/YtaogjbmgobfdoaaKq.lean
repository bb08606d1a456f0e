import Derived.Test.YtaogjbmgobfdoaaKr
namespace Go.Proofs.Ytaogjbmgobfdoaa
open Go.Dec Go.RowKit
set_option maxHeartbeats 400000

theorem qtake_c (w : World) (F : Nat → Prop) (b : Nat) (S : RS) (f : Int) (h : IsQ w F b S) (hk : S.ok) (hr : S.R + 64 ≤ 1000000) (hf : f ≤ 9223372036854775807) :
    callC Try.prog 21 #[.pointer (some ⟨b, 0, none⟩), .int .i64 f] (fun (r : Sl × Int) => .tuple #[r.1.v, .int .i64 r.2]) w fun r w' =>
      r.2 = (S.take f).R ∧ ∃ F' G, IsQ w' F' b (S.take f) ∧ Stp F w F' w' ∧ OwnF w' G 3 1 r.1 ((S.got f).flatMap ci) ∧ (∀ x, G x → w.heap.size ≤ x ∧ x < w'.heap.size) ∧ ∀ x, G x → ¬ F' x := by
  have hk' := hk
  obtain ⟨e0, e1, e2, e3, e4⟩ := hk
  obtain ⟨hs, h1, h2, h3⟩ := h.ex
  refine D21 _ _ w _ ?_
  unfold F21
  refine jn.mk (fun c w' => c = decide (S.out f) ∧ Quiet w w') ?_ ?_
  · show tk w _
    unfold tk
    have qd : Quiet w w.drew := Only.drew _ _
    have hb := h1.keepQ qd
    refine nn_ (hb.ld rfl ⟨fun hc => ⟨?_, qd⟩, fun hc => nn_ (hb.ld rfl (nn_ (hb.ld rfl ⟨?_, qd⟩)))⟩)
    · have : S.out f := by simp at hc; exact .inl hc
      simp [this]
    · have : ¬ f < S.R := by simpa using hc
      rw [w64 (by omega) (by omega), Bool.eq_iff_iff, decide_eq_true_iff, decide_eq_true_iff]
      unfold RS.out
      omega
  rintro c w2 ⟨rfl, q2⟩
  have b2 := h1.keepQ q2
  refine ⟨fun hc => ?_, fun hc => ?_⟩
  · have ho : S.out f := of_decide_eq_true hc
    refine jn.mk (fun (c : Sl × Int) w' => c = (Sl.nil, S.R) ∧ Quiet w w') ?_ ?_
    · show tk w2 _
      unfold tk
      exact nn_ ((b2.keepQ (Only.drew _ _)).ld rfl ⟨rfl, q2.tr (Only.drew _ _)⟩)
    · rintro c w4 ⟨rfl, q4⟩
      unfold RS.take RS.got
      rw [if_pos ho, if_pos ho]
      exact ⟨rfl, F, _, h.keepQ q4, Stp.quiet q4, OwnF.nil w4 (fun _ => False) _ _, fun x e => e.elim, fun x e => e.elim⟩
  have ho : ¬ S.out f := of_decide_eq_false hc
  have ho' := ho
  unfold RS.out at ho'
  have hkm := hk'.mark f
  have hleadm := lead_le (S.mark f).H
  have hmh := hkm.h
  have hRm : (S.mark f).R = S.R := rfl
  have hWm : (S.mark f).W = S.W := rfl
  have hbw : b < w.heap.size := h.lt b h3
  refine jn.mk (fun _ w' => Blk w' b 49 #[.int .i64 (S.mark f).W, .int .i64 (S.mark f).R, hs.v] ∧ OwnF w' F 4 1 hs ((S.mark f).H.flatMap cb) ∧ Only F w w') ?_ ?_
  · show tk w2 _
    unfold tk
    have qd := q2.tr (Only.drew (fun _ => False) w2)
    have hb := h1.keepQ qd
    refine nn_ (hb.ld rfl (nn_ (hb.ld rfl ?_)))
    rw [w64 (by omega) (by omega)]
    have hx : S.H[(f - S.R).toNat]? = some (S.H[(f - S.R).toNat]'(by omega)) := List.getElem?_eq_getElem _
    refine Own.set0 (h2.keepQ qd).own (y := true) cb1 (by omega) hx rfl (by decide) fun w6 o6 on6 s6 => ?_
    exact ⟨hb.keep on6 fun e => (h2.keepQ qd).own.ne_blk hb (by decide) e, ⟨o6, h2.blk⟩, (qd.mono fun _ _ e => e.elim).then_ on6 fun x _ e => h2.blk x e⟩
  rintro _ w7 ⟨b7, o7, on7⟩
  unfold RS.take RS.got
  rw [if_neg ho, if_neg ho]
  refine ⟨fun out w' => ∃ (S' : RS) (n : Nat) (G Fx : Nat → Prop) (hs : Sl), S'.ok ∧ S'.W = S.W ∧ S'.R = S.R + n ∧ S'.fin = (S.mark f).fin ∧ n + lead S'.H = lead (S.mark f).H ∧ Blk w' b 49 #[.int .i64 S'.W, .int .i64 S'.R, hs.v] ∧ OwnF w' Fx 4 1 hs (S'.H.flatMap cb) ∧ OwnF w' G 3 1 out ((seqI S.R n).flatMap ci) ∧ (∀ x, G x → w.heap.size ≤ x ∧ x < w'.heap.size) ∧ (∀ x, Fx x → (F x ∨ w.heap.size ≤ x) ∧ x < w'.heap.size) ∧ (∀ x, G x → ¬ Fx x) ∧ Only F w w',
    fun out _ => 64 - out.len, ⟨S.mark f, 0, fun _ => False, F, hs, hkm, rfl, by omega, rfl, by omega, b7, o7, OwnF.nil _ _ _ _, fun x e => e.elim, fun x e => ⟨.inl e, by have := h.lt x e; have := on7.size; omega⟩, fun x e => e.elim, on7⟩, ?_⟩
  clear o7 b7 h2 b2 h1
  rintro out w8 ⟨S', n, G, Fx, hs, hk6, hW6, hR6, hfin, hld, b8, o8, out8, g8, fx8, dj8, on8⟩
  obtain ⟨hb0, hr0, hH⟩ := hk6.head
  have hkh := hk6.h
  have hml := lead_le S'.H
  have hsz8 := on8.size
  refine nn_ (b8.ld (x := hs) rfl ?_)
  refine o8.ixx cb1 (by decide) (i := 0) (x := hb0) (by omega) (by rw [hH]; rfl) fun p29 a29 _ => a29.ld0 rfl ⟨fun hc => ?_, fun hc => ?_⟩
  · subst hc
    have hls := RS.lead_shift hH
    have hw1 := hk6.w1
    have hk7 := hk6.shift (by omega)
    have hol := (out8.rd ci1 (by decide)).len
    rw [seqI_len] at hol
    refine nn_ (b8.ld rfl ?_)
    refine OwnF.push ap22 out8 rfl rfl (by unfold maxLen; omega) (by omega) fun r w10 G' o10 l10 st10 => ?_
    have hGb : ∀ x, x < w.heap.size → ¬ G x := fun x hx e => by have := (g8 x e).1; omega
    have b10 := b8.keep st10.only (hGb _ hbw)
    have hs10 := o8.keep st10.only fun x e1 e2 => dj8 x e2 e1
    have s10 := st10.only.size
    have dj10 := st10.dj (G := Fx) (fun x e => (fx8 x e).2) dj8
    have on10 : Only F w w10 := on8.then_ st10.only fun x hx e => absurd e (hGb x hx)
    have g10 : ∀ x, G' x → w.heap.size ≤ x ∧ x < w10.heap.size := fun x e => by
      rcases st10.sub x e with e | e
      · have := g8 x e
        omega
      · omega
    refine nn_ (b10.ld rfl (nn_ (b10.st (by simp) fun w11 b11 on11 s11 => ?_)))
    rw [w64 (by omega) (by omega)] at b11
    have hs11 : OwnF w11 Fx 4 1 hs (S'.H.flatMap cb) := ⟨hs10.own.keep on11 fun x hx e => hs10.own.ne_blk b10 (by decide) (by rw [hx, e]), hs10.blk⟩
    have o11 : OwnF w11 G' 3 1 r (((seqI S.R n).flatMap ci) ++ [.int .i64 S'.R]) := ⟨o10.own.keep on11 fun x hx e => o10.own.ne_blk b10 (by decide) (by rw [hx, e]), o10.blk⟩
    have onw11 : Only F w w11 := on10.then_ on11 fun x _ e => e ▸ h3
    refine nwL fun b40 w12 hb40 q12 ge12 _ lt12 => nn_ ((b11.keepQ q12).ld (x := hs) rfl ?_)
    have hs12 := hs11.keepQ q12
    refine rn_from ap47 (hs12.rd cb1 (by decide)) hs12.cap (by decide) (by omega) fun r43 hr43 _ _ => ?_
    refine (empty_own hb40).app ap47 hr43 cb1 (by decide) cbone (by simp; unfold maxLen; omega) (by simp; omega) fun r44 w14 F44 o44 l44 st44 => ?_
    have f44 : Fresh w11 w14 F44 := Fresh.stp ⟨q12, fun x hx => by subst hx; exact ⟨ge12, lt12⟩⟩ st44
    have hdl : (S'.H.drop 1).length + 1 = S'.H.length := by rw [List.length_drop]; omega
    simp only [List.nil_append] at o44
    have hr44 := (o44.rd cb1 (by decide)).len
    rw [show (1 : Int).toNat = 1 from rfl] at hr44 o44
    refine OwnF.push ap47 o44 rfl rfl (by unfold maxLen; omega) (by omega) fun r46 w16 F46 o46 l46 st46 => ?_
    have f46 := f44.stp st46
    have b16 := b11.keepQ f46.q
    refine nn_ (b16.st (by simp [splice]) fun w17 b17 on17 s17 => ?_)
    have hout17 : OwnF w17 G' 3 1 r ((seqI S.R (n + 1)).flatMap ci) := by
      have e := (o11.keepQ f46.q).own.keep on17 fun x hx e => (o11.keepQ f46.q).own.ne_blk b16 (by decide) (by rw [hx, e])
      refine ⟨?_, o11.blk⟩
      rw [seqI_snoc, List.flatMap_append, show S.R + (n : Int) = S'.R by omega]
      simpa [ci] using e
    have hh17 : OwnF w17 F46 4 1 r46 (S'.shift.H.flatMap cb) := by
      refine ⟨?_, o46.blk⟩
      have e := o46.own.keep on17 fun x hx e => o46.own.ne_blk b16 (by decide) (by rw [hx, e])
      simpa [RS.shift, cb] using e
    have hq := f46.q.size
    refine ⟨⟨S'.shift, n + 1, G', F46, r46, hk7, hW6, by show S'.R + 1 = _; omega, (RS.fin_shift hH).trans hfin, by omega, b17, hh17, hout17, fun x e => by have := g10 x e; omega, fun x e => by have := f46.b x e; exact ⟨.inr (by omega), by omega⟩, fun x e1 e2 => by have := g10 x e1; have := f46.b x e2; omega, (onw11.then_ f46.q fun x _ e => e.elim).then_ on17 fun x _ e => e ▸ h3⟩, ?_⟩
    try dsimp only
    omega
  · subst hc
    obtain ⟨e1, e2⟩ := RS.fin_done hH
    rw [e1] at hld
    rw [e2] at hfin
    refine jn.mk (fun (c : Sl × Int) w' => c = (out, S'.R) ∧ Quiet w8 w') ?_ ?_
    · show tk w8 _
      unfold tk
      exact nn_ ((b8.keepQ (Only.drew _ _)).ld rfl ⟨rfl, Only.drew _ _⟩)
    · rintro c w19 ⟨rfl, q19⟩
      have hs19 := q19.size
      rw [← hfin]
      have on19 : Only F w w19 := on8.then_ q19 fun x _ e => e.elim
      refine ⟨rfl, fun x => x = b ∨ Fx x, G, ⟨⟨hs, b8.keepQ q19, (o8.keepQ q19).mono fun x => .inr, .inl rfl⟩, ?_⟩, ⟨on19, ?_⟩, ?_, fun x e => ?_, ?_⟩
      · rintro x (e | e)
        · omega
        · have := (fx8 x e).2
          omega
      · rintro x (e | e)
        · exact .inl (e ▸ h3)
        · obtain ⟨c1, c2⟩ := fx8 x e
          rcases c1 with c1 | c1
          · exact .inl c1
          · exact .inr ⟨c1, by omega⟩
      · have : n = lead (S.mark f).H := by omega
        rw [← this]
        exact out8.keepQ q19
      · have := g8 x e
        omega
      · rintro x e (e' | e')
        · have := (g8 x e).1
          omega
        · exact dj8 x e e'

theorem mclone_c (w : World) (mb : Nat) (m : Int → Option Bool) (h : Mp (Value.int .i64) Value.bool w mb m) :
    callC Try.prog 27 #[.map (some mb)] (fun (r : Option Nat) => .map r) w fun r w' => ∃ b, r = some b ∧ Mp (Value.int .i64) Value.bool w' b m ∧ Quiet w w' ∧ w.heap.size ≤ b ∧ b < w'.heap.size := by
  refine D27 _ w _ ?_
  unfold F27
  refine ⟨fun hc => absurd hc (by simp), fun _ => ?_⟩
  refine rn_iface u62 (fun _ => rfl) ?_
  refine cx_clone h Try.func28 (by kernel_rfl) (by kernel_rfl) (by kernel_rfl) (by kernel_rfl) (fun _ => rfl) fun b w' hm q g l _ => ?_
  refine rn_assert u62 (fun _ => rfl) ?_
  exact ⟨b, rfl, hm, q, g, l⟩
theorem rcopy_c (w : World) (F : Nat → Prop) (b : Nat) (S : RS) (h : IsR w F b S) :
    callC Try.prog 25 #[.pointer (some ⟨b, 0, none⟩)] (fun (r : Option Addr) => .pointer r) w fun r w' => ∃ c G, r = some ⟨c, 0, none⟩ ∧ IsR w' G c S ∧ Fresh w w' G := by
  obtain ⟨mb, h1, h2, h3, h4⟩ := h.ex
  refine D25 _ w _ ?_
  unfold F25
  refine jn.in_ ?_
  show tk w _
  unfold tk
  have qd : Quiet w w.drew := Only.drew _ _
  have hb := h1.keepQ qd
  refine nn_ (hb.ld rfl (nn_ (hb.ld rfl (nn_ (hb.ld (x := some mb) rfl ?_)))))
  refine (mclone_c _ mb _ (h2.keepQ qd)).use ?_
  rintro r9 w2 ⟨c, rfl, hm, q2, g2, l2⟩
  have b2 := hb.keepQ q2
  refine ⟨b2.ld0' rfl, b2.ld0' rfl, ?_⟩
  refine nwL fun b10 w3 hb10 q3 g3 _ l3 => ⟨(b2.keepQ q3).ld0' rfl, (b2.keepQ q3).ld0' rfl, ?_⟩
  have s1 := qd.size
  have s2 := q2.size
  have s3 := q3.size
  refine ⟨b10, fun x => x = b10 ∨ x = c, rfl, ⟨⟨c, hb10, hm.keepQ q3, .inl rfl, .inr rfl⟩, ?_⟩, (qd.tr q2).tr q3, ?_⟩
  · rintro x (e | e) <;> omega
  · rintro x (e | e) <;> omega

theorem rdI {w : World} {b n : Nat} {l : List Int} {cs : Array Value} (h : Blk w b 3 cs) (hn : n = l.length) (hc : cs = (l.map (Value.int .i64)).toArray) : Rd w ci 1 (⟨some ⟨b, 0, none⟩, n, n⟩ : Sl) l := by
  subst hc
  refine ⟨hn, fun i x hx => ⟨_, rfl, fun j u hu => ?_⟩⟩
  match j, hu with
  | 0, hu =>
    simp [ci] at hu
    subst hu
    rw [mk_add, mk_add, h.cell]
    simp [hx]
  | j + 1, hu => simp [ci] at hu
end Go.Proofs.Ytaogjbmgobfdoaa
