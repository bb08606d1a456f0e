import Derived.Test.YtcnnnhligkpamaaSu
namespace Go.Proofs.Ytcnnnhligkpamaa
open Go.Dec Go.RowKit
set_option maxHeartbeats 400000

theorem ap22 : appOK Try.prog 22 33 22 192 = true := by kernel_rfl
theorem app_copy {w1 : World} {F : Nat → Prop} {b : Nat} {u : Sl} {l : List Pf} {K : Sl → World → Prop} (o : OwnF w1 F 33 22 (⟨some ⟨b, 0, none⟩, 0, 0⟩ : Sl) []) (h : Rd w1 pf 22 u l) (hl : l.length ≤ 1000)
    (k : ∀ r w2 F2, OwnF w2 F2 33 22 r (l.flatMap pf) → r.len = l.length → Stp F w1 F2 w2 → K r w2) : rn Try.prog (Builtin.append_ #[22, 22] 22 #[Sl.v (⟨some ⟨b, 0, none⟩, 0, 0⟩ : Sl), Sl.v u]) Sl.v w1 K := by
  refine o.app ap22 h pf_len (by decide) pf_one (by simp; unfold maxLen; omega) (by simp; omega) fun r w2 F2 o2 e2 s2 => k r w2 F2 (by simpa using o2) (by simpa using e2) s2
theorem app_one {w2 : World} {F2 : Nat → Prop} {r v : Sl} {x : Pf} {l : List Pf} {K : Sl → World → Prop} (o : OwnF w2 F2 33 22 r (l.flatMap pf)) (er : r.len = l.length) (hv : Rd w2 pf 22 v [x]) (hl : l.length ≤ 1000)
    (k : ∀ r' w3 F3, Rd w3 pf 22 r' (l ++ [x]) → Stp F2 w2 F3 w3 → K r' w3) : rn Try.prog (Builtin.append_ #[22, 22] 22 #[Sl.v r, Sl.v v]) Sl.v w2 K := by
  refine o.app ap22 hv pf_len (by decide) pf_one (by rw [er]; simp; unfold maxLen; omega) (by rw [er]; simp; omega) fun r' w3 F3 o3 _ s3 => k r' w3 F3 ?_ s3
  rw [← List.flatMap_append] at o3
  exact o3.rd pf_len (by decide)
/-- a copy of a list of profiles with one more, in every order in which its parts may be made -/
theorem add_one {w : World} {b1 : Nat} {x : Pf} {u : Sl} {l : List Pf} {J : Sl → World → Prop} (hb : IsPf w b1 x) (h : Rd w pf 22 u l) (hl : l.length ≤ 1000) (k : ∀ r w', Rd w' pf 22 r (l ++ [x]) → Quiet w w' → J r w') :
    (nw 33 #[] w fun b31 w5 => pf_cells w5 (Addr.mk b1 0 none) x ∧
      ((rn Try.prog (Builtin.append_ #[22, 22] 22 #[Sl.v (⟨some ⟨b31, 0, none⟩, 0, 0⟩ : Sl), Sl.v u]) Sl.v w5 fun r32 w6 => pf_cells w6 (Addr.mk b1 0 none) x ∧
        nw 33 (pf x).toArray w6 fun b33 w7 => rn Try.prog (Builtin.append_ #[22, 22] 22 #[Sl.v r32, Sl.v (⟨some ⟨b33, 0, none⟩, 1, 1⟩ : Sl)]) Sl.v w7 fun r34 w8 => J r34 w8) ∧
      (nw 33 (pf x).toArray w5 fun b35 w9 => rn Try.prog (Builtin.append_ #[22, 22] 22 #[Sl.v (⟨some ⟨b31, 0, none⟩, 0, 0⟩ : Sl), Sl.v u]) Sl.v w9 fun r36 w10 =>
        rn Try.prog (Builtin.append_ #[22, 22] 22 #[Sl.v r36, Sl.v (⟨some ⟨b35, 0, none⟩, 1, 1⟩ : Sl)]) Sl.v w10 fun r37 w11 => J r37 w11))) ∧
    (nw 33 (pf x).toArray w fun b38 w12 => nw 33 #[] w12 fun b39 w13 => rn Try.prog (Builtin.append_ #[22, 22] 22 #[Sl.v (⟨some ⟨b39, 0, none⟩, 0, 0⟩ : Sl), Sl.v u]) Sl.v w13 fun r40 w14 =>
      rn Try.prog (Builtin.append_ #[22, 22] 22 #[Sl.v r40, Sl.v (⟨some ⟨b38, 0, none⟩, 1, 1⟩ : Sl)]) Sl.v w14 fun r41 w15 => J r41 w15) := by
  have row : ∀ {w' : World} {b : Nat}, Blk w' b 33 (pf x).toArray → Rd w' pf 22 (⟨some ⟨b, 0, none⟩, 1, 1⟩ : Sl) [x] := fun hB => pf_row (l := [x]) hB rfl (by simp)
  refine ⟨nwL fun b31 w5 hB31 q5 g5 _ l5 => ?_, nwL fun b38 w12 hB38 q12 g12 _ l12 => nwL fun b39 w13 hB39 q13 g13 _ l13 => ?_⟩
  · have f5 : Fresh w w5 (fun b => b = b31) := ⟨q5, fun b hb => by subst hb; exact ⟨g5, l5⟩⟩
    refine ⟨pf_cj (hb.keepQ q5).at, app_copy (empty_own hB31) (h.keepQ q5) hl fun r w6 F6 o6 e6 s6 => ?_, nwL fun b35 w9 hB35 q9 g9 _ l9 => app_copy ((empty_own hB31).keepQ q9) (h.keepQ (q5.tr q9)) hl fun r w10 F10 o10 e10 s10 => ?_⟩
    · have f6 := f5.stp s6
      refine ⟨pf_cj (hb.keepQ f6.q).at, nwL fun b33 w7 hB33 q7 _ _ _ => app_one (o6.keepQ q7) e6 (row hB33) hl fun r' w8 F8 h8 s8 => k r' w8 h8 ((f6.keep q7).stp s8).q⟩
    · have f10 := (f5.keep q9).stp s10
      refine app_one o10 e10 (row (hB35.keep s10.only (by omega))) hl fun r' w11 F11 h11 s11 => k r' w11 h11 (f10.stp s11).q
  · have f13 : Fresh w w13 (fun b => b = b39) := ⟨q12.tr q13, fun b hb => by subst hb; have := q12.size; exact ⟨by omega, l13⟩⟩
    refine app_copy (empty_own hB39) (h.keepQ (q12.tr q13)) hl fun r w14 F14 o14 e14 s14 => ?_
    have f14 := f13.stp s14
    refine app_one o14 e14 (row ((hB38.keepQ q13).keep s14.only (by omega))) hl fun r' w15 F15 h15 s15 => k r' w15 h15 (f14.stp s15).q

/-! ### the law -/
theorem sees_less {nets : List Pf} {m : Pf} {l : List Ev} {a id : Int} (h : seesP (nets ++ [m]) l a id = true) : seesP nets l a id = true := by
  unfold seesP at h ⊢
  cases he : l[id.toNat]? with
  | none => rw [he] at h; cases h
  | some e =>
    rw [he] at h
    dsimp only at h ⊢
    rw [Bool.or_eq_true] at h ⊢
    refine h.imp (fun e => e) fun h => ?_
    rw [List.any_eq_true] at h ⊢
    obtain ⟨s, h1, h2⟩ := h
    rw [List.all_append, ← Bool.and_assoc, Bool.and_eq_true] at h2
    exact ⟨s, h1, h2.1⟩
theorem sees_twice (nets : List Pf) (m : Pf) (l : List Ev) (a id : Int) : seesP (nets ++ [m] ++ [m]) l a id = seesP (nets ++ [m]) l a id := by
  unfold seesP
  cases l[id.toNat]? with
  | none => rfl
  | some e =>
    dsimp only
    congr 2
    funext s
    rw [List.all_append, List.all_append]
    simp
theorem Sees_less {nets : List Pf} {m : Pf} {l : List Ev} {a id : Int} (h : SeesP (nets ++ [m]) l a id = true) : SeesP nets l a id = true := by
  unfold SeesP at h ⊢
  rw [Bool.and_eq_true] at h ⊢
  exact ⟨h.1, sees_less h.2⟩
theorem To_less {nets : List Pf} {m : Pf} {l : List Ev} {n id : Int} (h : ToP (nets ++ [m]) l n id = true) : ToP nets l n id = true := by
  unfold ToP at h ⊢
  cases he : l[id.toNat]? with
  | none => rw [he] at h; cases h
  | some e =>
    rw [he] at h
    dsimp only at h ⊢
    rw [Bool.and_eq_true] at h ⊢
    refine ⟨h.1, ?_⟩
    have h := h.2
    rw [List.any_eq_true] at h ⊢
    obtain ⟨s, h1, h2⟩ := h
    rw [Bool.and_eq_true] at h2
    exact ⟨s, h1, by rw [Bool.and_eq_true]; exact ⟨h2.1, sees_less h2.2⟩⟩

theorem less_c (w : World) (s t : Sl) (nets : List Pf) (l : List Ev) (m : Pf) (a : Int) (hs : Rd w pf 22 s nets) (h : Rd w ev 12 t l) (hl : l.length ≤ maxLen) (hc : t.len ≤ t.cap) :
    callC Try.prog 4 #[s.v, t.v, pfv m, .int .i64 a] (fun (r : Bool) => .bool r) w fun r w' => r = true ∧ Quiet w w' := by
  have hsl := hs.len
  have htl := h.len
  refine D4 _ _ _ _ _ _ _ _ _ _ _ _ _ _ _ _ _ _ _ _ _ _ _ _ _ w _ ?_
  unfold F4
  refine nwL fun b1 w1 hb1 q1 _ _ _ => ?_
  have hb : IsPf w1 b1 m := hb1
  refine (small_c w1).use ?_
  rintro r2 w2 ⟨rfl, q2⟩
  have q02 := q1.tr q2
  refine (few_c w2 s t nets l (hs.keepQ q02) (h.keepQ q02) hl).use ?_
  rintro r3 w3 ⟨hr3, q3⟩
  have q03 := q02.tr q3
  have q13 := q2.tr q3
  refine ⟨fun _ => ⟨rfl, q03⟩, fun g => ?_⟩
  rw [Bool.or_eq_false_iff] at g
  obtain ⟨k1, k2⟩ := hr3 (by simpa using g.1)
  refine jn.mk (fun r w' => Rd w' pf 22 r (nets ++ [m]) ∧ Quiet w3 w') ?_ ?_
  · show tk w3 _
    unfold tk
    have qd : Quiet w3 w3.drew := Only.drew _ _
    exact pf_ld (hb.keepQ (q13.tr qd)).at (add_one (hb.keepQ (q13.tr qd)) (hs.keepQ (q03.tr qd)) (by omega) fun r w' hr q => ⟨hr, qd.tr q⟩)
  rintro l42 w16 ⟨h42, q16⟩
  refine jn.mk (fun r w' => Rd w' pf 22 r (nets ++ [m] ++ [m]) ∧ Quiet w16 w') ?_ ?_
  · show tk w16 _
    unfold tk
    have qd : Quiet w16 w16.drew := Only.drew _ _
    exact pf_ld (hb.keepQ ((q13.tr q16).tr qd)).at (add_one (hb.keepQ ((q13.tr q16).tr qd)) (h42.keepQ qd) (by simp; omega) fun r w' hr q => ⟨hr, qd.tr q⟩)
  rintro l78 w29 ⟨h78, q29⟩
  have q029 := (q03.tr q16).tr q29
  have h42 := h42.keepQ q29
  have ht := h.keepQ q029
  have hsn := hs.keepQ q029
  have n1 : (nets ++ [m]).length ≤ 1000000 := by simp; omega
  have n2 : (nets ++ [m] ++ [m]).length ≤ 1000000 := by simp; omega
  refine ⟨fun i w' => 0 ≤ i ∧ i ≤ l.length ∧ Quiet w29 w', fun i _ => (l.length - i).toNat, ⟨by omega, by omega, Only.refl _ _⟩, ?_⟩
  rintro i w30 ⟨i0, i1, q30⟩
  refine ⟨fun hi => ?_, fun _ => ⟨rfl, q029.tr q30⟩⟩
  have hlt : i < l.length := by rw [htl] at hi; exact of_decide_eq_true hi
  refine (Sees_c w30 l42 t _ l a i (h42.keepQ q30) (ht.keepQ q30) n1 (by omega) hc).use ?_
  rintro r81 w31 ⟨rfl, q31⟩
  have q231 := q30.tr q31
  refine jn.mk (fun c w' => c = false ∧ Quiet w29 w') ⟨fun g1 => (Sees_c w31 s t nets l a i (hsn.keepQ q231) (ht.keepQ q231) (by omega) (by omega) hc).use ?_, fun _ => ⟨rfl, q231⟩⟩ ?_
  · rintro r w32 ⟨rfl, q32⟩
    exact ⟨by rw [Sees_less g1]; rfl, q231.tr q32⟩
  rintro _ w33 ⟨rfl, q33⟩
  refine jn.mk (fun c w' => c = false ∧ Quiet w29 w') ⟨fun g1 => (by cases g1), fun _ => (Sees_c w33 l78 t _ l a i (h78.keepQ q33) (ht.keepQ q33) n2 (by omega) hc).use ?_⟩ ?_
  · rintro r w34 ⟨rfl, q34⟩
    refine (Sees_c w34 l42 t _ l a i (h42.keepQ (q33.tr q34)) (ht.keepQ (q33.tr q34)) n1 (by omega) hc).use ?_
    rintro r w35 ⟨rfl, q35⟩
    refine ⟨?_, (q33.tr q34).tr q35⟩
    unfold SeesP
    rw [sees_twice]
    simp
  rintro _ w36 ⟨rfl, q36⟩
  refine ⟨fun g => (by cases g), fun _ => ?_⟩
  refine ⟨fun n w' => 0 ≤ n ∧ n ≤ 12 ∧ Quiet w29 w', fun n _ => (12 - n).toNat, ⟨by omega, by omega, q36⟩, ?_⟩
  rintro n w37 ⟨n0, n1', q37⟩
  refine ⟨fun hn => ?_, fun _ => ?_⟩
  · have hn := of_decide_eq_true hn
    refine (To_c w37 l42 t _ l n i (h42.keepQ q37) (ht.keepQ q37) n1 (by omega) hc).use ?_
    rintro r94 w38 ⟨rfl, q38⟩
    have q238 := q37.tr q38
    refine jn.mk (fun c w' => c = false ∧ Quiet w29 w') ⟨fun g1 => (To_c w38 s t nets l n i (hsn.keepQ q238) (ht.keepQ q238) (by omega) (by omega) hc).use ?_, fun _ => ⟨rfl, q238⟩⟩ ?_
    · rintro r w39 ⟨rfl, q39⟩
      exact ⟨by rw [To_less g1]; rfl, q238.tr q39⟩
    rintro _ w40 ⟨rfl, q40⟩
    refine ⟨fun g => (by cases g), fun _ => ?_⟩
    rw [w64 (by omega) (by omega)]
    exact ⟨⟨by omega, by omega, q40⟩, by (try dsimp only); omega⟩
  · rw [w64 (by omega) (by omega)]
    exact ⟨⟨by omega, by omega, q37⟩, by (try dsimp only); omega⟩
theorem less (W : World) (s : Sl) (nets : List Pf) (hs : Rd W pf 22 s nets) (_ : ∀ ad, s.a = some ad → 0 < nets.length → ad.block < W.heap.size) (_ : nets.length ≤ maxLen)
    (t : Sl) (l : List Ev) (h : Rd W ev 12 t l) (_ : ∀ ad, t.a = some ad → 0 < l.length → ad.block < W.heap.size) (hl : l.length ≤ maxLen) (hc : t.len ≤ t.cap) (m : Pf) (a : Int) (_ : -9223372036854775808 ≤ a) (_ : a ≤ 9223372036854775807) :
    callC Try.prog 4 #[s.v, t.v, pfv m, .int .i64 a] (fun (r : Bool) => .bool r) W fun r w' => r = true ∧ Below W.heap.size W w' :=
  (less_c W s t nets l m a hs h hl hc).use fun _ _ h => ⟨h.1, bq h.2⟩
end Go.Proofs.Ytcnnnhligkpamaa
