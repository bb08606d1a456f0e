import Derived.Test.YtkacfhhpmpmhkaaCf
namespace Go.Proofs.Ytkacfhhpmpmhkaa
open Go.Dec Go.RowKit
set_option maxHeartbeats 800000
set_option maxRecDepth 10000

theorem Leads.more {L : List Ch} {n : Int} (M : List Ch) : ∀ {p : List Nat} {u v : ByteArray}, Leads L n u p v → Leads (L ++ M) n u p v
  | [], _, _, h => h
  | _ :: _, _, _, ⟨c, h1, h2, h3, h4⟩ => ⟨c, by rw [List.getElem?_append_left (List.getElem?_eq_some_iff.1 h1).1]; exact h1, h2, h3, h4.more M⟩
theorem Leads.less {L : List Ch} {n k : Int} (hk : k ≤ n) : ∀ {p : List Nat} {u v : ByteArray}, Leads L n u p v → Leads L k u p v
  | [], _, _, h => h
  | _ :: _, _, _, ⟨c, h1, h2, h3, h4⟩ => ⟨c, h1, h2, by omega, h4.less hk⟩
theorem ch_cells1 (c : Ch) : [c].flatMap ch = ch c := by simp
theorem more_c (w : World) (s t : Sl) (L : List Ch) (u : ByteArray) (T : List ByteArray) (n : Int) (c : Ch) (y : ByteArray) (o : Int) (h : Rd w ch 3 s L) (h' : Rd w cb 1 t T) :
    callC Try.prog 5 #[s.v, .string u, t.v, .int .i64 n, chv c, .string y, .int .i64 o] (fun (r : Bool) => .bool r) w fun r w' => r = true ∧ Quiet w w' := by
  have hsl := h.len
  have htl := h'.len
  refine D5 _ _ _ _ _ _ _ _ _ w _ ?_
  unfold F5
  refine nwL fun b9 W hb q _ _ _ => ?_
  have hb : IsCh W b9 c := hb
  have h := h.keepQ q
  have h' := h'.keepQ q
  have Q := q
  refine (small_c W).use ?_
  rintro _ w2 ⟨rfl, q⟩
  refine (few_c w2 s t L u T (h.keepQ q) (h'.keepQ q)).use ?_
  rintro r11 w3 ⟨hf, rfl⟩
  have hB : ∀ w', Quiet W w' → AtC w' (Addr.mk b9 0 none) (ch c) := fun w' q => (hb.keepQ q).at
  refine jp_or (v := decide (20 < (c.src.size : Int))) (fun _ J hJ => (hB _ q).ld (j := 0) rfl hJ) ?_
  refine jp_or (v := decide (20 < (c.dst.size : Int))) (fun _ J hJ => (hB _ q).ld (j := 1) rfl hJ) ?_
  refine ⟨fun _ => ⟨rfl, Q.tr q⟩, fun g => ?_⟩
  simp only [Bool.or_eq_false_iff, Bool.not_eq_false', decide_eq_false_iff_not] at g
  obtain ⟨⟨⟨⟨⟨g1, g2⟩, g3⟩, _⟩, _⟩, _⟩ := g
  obtain ⟨lL, lT⟩ := hf g1
  refine (path_c w2 s t L u T n (h.keepQ q) (h'.keepQ q) (by omega)).use ?_
  rintro ⟨r, is⟩ w4 ⟨a, hr, hc, hp, q4⟩
  dsimp only at hr hc hp ⊢
  replace q := q.tr q4
  have hrl := hr.len
  rw [nz_len] at hrl
  have hal := hp.len_le
  -- with a change more
  refine jn.mk (fun (r' : Sl × Bool) w' => ∃ b, r'.1.len = b.length ∧ PathR (L ++ [c]) u T n b r'.2 ∧ Quiet W w') ?_ ?_
  · show tk _ _
    unfold tk
    replace q := q.tr (Only.drew (fun _ => False) _)
    refine ch_ld (hB _ q) ?_
    generalize w4.drew = v at *
    have hs := h.keepQ q
    have ht := h'.keepQ q
    have tail : ∀ (w8 : World) (r34 : Sl) (F : Nat → Prop) (b35 : Nat), OwnF w8 F 36 3 r34 (L.flatMap ch) → Fresh v w8 F → Blk w8 b35 36 (ch c).toArray →
        rn Try.prog (Builtin.append_ #[22, 22] 22 #[Sl.v r34, Sl.v (⟨some ⟨b35, 0, none⟩, 1, 1⟩ : Sl)]) Sl.v w8 fun r36 w9 =>
          callC Try.prog 10 #[(Sl.v r36), (Value.string u), (Sl.v t), (Value.int .i64 n)] (fun (r : Sl × Bool) => (Value.tuple #[(Sl.v r.1), (Value.bool r.2)])) w9 fun r37 w10 => ∃ b, r37.1.len = b.length ∧ PathR (L ++ [c]) u T n b r37.2 ∧ Quiet W w10 := by
      intro w8 r34 F b35 ho f hb35
      have hol := (ho.rd ch_len (by decide)).len
      have hu : Rd w8 ch 3 (⟨some ⟨b35, 0, none⟩, 1, 1⟩ : Sl) [c] := ch_row hb35 rfl (by rw [ch_cells1])
      refine ho.app ap22 hu ch_len (by decide) ch_one (by unfold maxLen; simp; omega) (by simp; omega) fun r36 w9 F' ho' _ st' => ?_
      have f' := f.stp st'
      rw [← List.flatMap_append] at ho'
      refine (path_c w9 r36 t (L ++ [c]) u T n (ho'.rd ch_len (by decide)) (ht.keepQ f'.q) (by omega)).use ?_
      rintro ⟨r37, is37⟩ w10 ⟨b, hr37, _, hp37, q10⟩
      have := hr37.len
      rw [nz_len] at this
      exact ⟨b, this, hp37, (q.tr f'.q).tr q10⟩
    have own0 : ∀ (w6 : World) (b33 : Nat), Blk w6 b33 36 #[] → OwnF w6 (fun x => x = b33) 36 3 (⟨some ⟨b33, 0, none⟩, 0, 0⟩ : Sl) ([] : List Value) := fun w6 b33 hb33 => empty_own hb33
    have copy : ∀ (w6 : World) (b33 : Nat) (K : Sl → World → Prop), Blk w6 b33 36 #[] → Quiet v w6 → v.heap.size ≤ b33 → (∀ r34 w7 F, OwnF w7 F 36 3 r34 (L.flatMap ch) → Fresh v w7 F → Only (fun x => x = b33) w6 w7 → K r34 w7) →
        rn Try.prog (Builtin.append_ #[22, 22] 22 #[Sl.v (⟨some ⟨b33, 0, none⟩, 0, 0⟩ : Sl), Sl.v s]) Sl.v w6 K := by
      intro w6 b33 K hb33 q6 g6 k
      refine (own0 w6 b33 hb33).app ap22 (hs.keepQ q6) ch_len (by decide) ch_one (by unfold maxLen; simp; omega) (by simp; omega) fun r34 w7 F ho _ st => ?_
      have f0 : Fresh v w6 (fun x => x = b33) := ⟨q6, fun b e => by subst e; exact ⟨g6, hb33.lt⟩⟩
      exact k r34 w7 F (by simpa using ho) (f0.stp st) st.only
    refine ⟨nwL fun b33 w6 hb33 q33 g33 _ l33 => ⟨ch_cj (hB _ (q.tr q33)), ⟨?_, ?_⟩⟩, ?_⟩
    · refine copy w6 b33 _ hb33 q33 g33 fun r34 w7 F ho f _ => ⟨ch_cj (hB _ (q.tr f.q)), nwL fun b35 w8 hb35 q35 _ _ _ => ?_⟩
      exact tail w8 r34 F b35 (ho.keepQ q35) (f.keep q35) hb35
    · refine nwL fun b38 w11 hb38 q38 g38 _ _ => copy w11 b33 _ (hb33.keepQ q38) (q33.tr q38) g33 fun r34 w7 F ho f q7 => ?_
      exact tail w7 r34 F b38 ho f (hb38.keep q7 fun e => by omega)
    · refine nwL fun b42 w15 hb42 q42 _ _ l42 => nwL fun b43 w16 hb43 q43 g43 _ _ => ?_
      have z := q42.size
      refine copy w16 b43 _ hb43 (q42.tr q43) (by omega) fun r34 w7 F ho f q7 => ?_
      exact tail w7 r34 F b42 ho f ((hb42.keepQ q43).keep q7 fun e => by omega)
  rintro ⟨r47, is47⟩ w20 ⟨b, hbl, hpb, q20⟩
  dsimp only at hbl hpb ⊢
  have hsT := h'.keepQ q20
  -- with a type more
  refine rn_copy ap23 hsT cb1 (by decide) cbone (by unfold maxLen; omega) (by omega) fun r49 w22 F ho hrl49 f => ?_
  refine ho.push (news := cb y) ap23 rfl rfl (by unfold maxLen; omega) (by omega) fun r51 w24 F' ho' _ st' => ?_
  have f' := f.stp st'
  rw [show T.flatMap cb ++ cb y = (T ++ [y]).flatMap cb by simp] at ho'
  have q24 := q20.tr f'.q
  refine (path_c w24 s r51 L u (T ++ [y]) n (h.keepQ q24) (ho'.rd cb1 (by decide)) (by simp; omega)).use ?_
  rintro ⟨r52, is52⟩ w25 ⟨d, hrd, _, hpd, q25⟩
  dsimp only at hrd hpd ⊢
  have hdl := hrd.len
  rw [nz_len] at hdl
  replace q24 := q24.tr q25
  refine ⟨fun g => ?_, fun _ => ?_⟩
  · rw [Bool.and_eq_true] at g
    obtain ⟨gi, g⟩ := g
    obtain ⟨n0, _, ⟨v, hv, hl⟩, _⟩ := hp.yes gi
    obtain ⟨e1, _, k1⟩ := hpb.finds n0 (by simp; omega) (hl.more [c]) hv
    obtain ⟨e2, _, k2⟩ := hpd.finds n0 (by omega) hl (List.mem_append_left _ hv)
    have k1 := sle_len k1
    have k2 := sle_len k2
    rw [e1, e2] at g
    simp at g
    omega
  refine (path_c w25 s t L u T o (h.keepQ q24) (h'.keepQ q24) (by omega)).use ?_
  rintro ⟨r74, is74⟩ w26 ⟨e, _, _, hpe, q26⟩
  dsimp only at hpe ⊢
  refine ⟨?_, Q.tr (q24.tr q26)⟩
  rw [Bool.true_and, Bool.not_eq_true', Bool.eq_false_iff]
  intro g
  simp only [Bool.and_eq_true, decide_eq_true_eq, Bool.not_eq_true'] at g
  obtain ⟨⟨⟨g1, g2⟩, g3⟩, g4⟩ := g
  obtain ⟨_, _, ⟨v, hv, hl⟩, _⟩ := hpe.yes g3
  have := (hp.finds g2 (by omega) (hl.less g1) hv).1
  rw [g4] at this
  cases this
theorem more (W : World) (s : Sl) (L : List Ch) (h : Rd W ch 3 s L) (_ : ∀ ad, s.a = some ad → 0 < L.length → ad.block < W.heap.size) (_ : L.length ≤ maxLen) (u : ByteArray) (_ : u.size ≤ maxLen) (t : Sl) (T : List ByteArray) (h' : Rd W cb 1 t T) (_ : ∀ ad, t.a = some ad → 0 < T.length → ad.block < W.heap.size) (_ : T.length ≤ maxLen) (n : Int) (_ : -9223372036854775808 ≤ n) (_ : n ≤ 9223372036854775807) (c : Ch) (y : ByteArray) (_ : y.size ≤ maxLen) (o : Int) (_ : -9223372036854775808 ≤ o) (_ : o ≤ 9223372036854775807) :
    callC Try.prog 5 #[s.v, .string u, t.v, .int .i64 n, chv c, .string y, .int .i64 o] (fun (r : Bool) => .bool r) W fun r w' => r = true ∧ Below W.heap.size W w' :=
  (more_c W s t L u T n c y o h h').use fun _ _ h => ⟨h.1, bq h.2⟩
end Go.Proofs.Ytkacfhhpmpmhkaa
