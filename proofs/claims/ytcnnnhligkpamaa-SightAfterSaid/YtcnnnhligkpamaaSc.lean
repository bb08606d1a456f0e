import Derived.Test.YtcnnnhligkpamaaSp
namespace Go.Proofs.Ytcnnnhligkpamaa
open Go.Dec Go.RowKit
set_option maxHeartbeats 400000

theorem anyI (w : World) (s : Sl) (l : List Int) (f : Value) (g : Int → Bool) (h : Rd w ci 1 s l) (hl : l.length ≤ 1000000)
    (hf : ∀ (w' : World) (x : Int) (K : Bool → World → Prop), Quiet w w' → x ∈ l → (∀ w'', Quiet w' w'' → K (g x) w'') → cv Try.prog f [.int .i64 x] (fun (r : Bool) => .bool r) w' K) :
    callC Try.prog 26 #[s.v, f] (fun (r : Bool) => .bool r) w fun r w' => r = l.any g ∧ Quiet w w' := by
  have hsl := h.len
  refine D26 _ _ w _ ?_
  unfold F26
  refine callC.use (R := fun r w' => decide (0 ≤ r) = l.any g ∧ Quiet w w') (D38 _ _ w _ ?_) fun r w' h => h
  unfold F38
  refine ⟨fun i w' => 0 ≤ i ∧ i ≤ l.length ∧ (l.take i.toNat).any g = false ∧ Quiet w w', fun i _ => (l.length - i).toNat, ⟨by omega, by omega, by simp, Only.refl _ _⟩, ?_⟩
  rintro i w1 ⟨i0, i1, hn, q1⟩
  refine ⟨fun hi => ?_, fun hi => ?_⟩
  · have hlt : i < l.length := by rw [hsl] at hi; exact of_decide_eq_true hi
    obtain ⟨x, hx⟩ := getq i0 hlt
    refine (h.keepQ q1).ixx i0 hx fun p hat _ => hat.ld0 rfl (hf w1 x _ q1 (List.mem_of_getElem? hx) fun w2 q2 => ⟨fun hc => ⟨?_, q1.tr q2⟩, fun hc => ?_⟩)
    · rw [List.any_eq_true.2 ⟨x, List.mem_of_getElem? hx, hc⟩]
      exact decide_eq_true i0
    · rw [w64 (by omega) (by omega)]
      refine ⟨⟨by omega, by omega, ?_, q1.tr q2⟩, by (try dsimp only); omega⟩
      rw [toNat_succ i0, take_next hx, List.any_append, hn]
      simp [hc]
  · have hge : l.length ≤ i.toNat := by have := of_decide_eq_false hi; omega
    rw [List.take_of_length_le hge] at hn
    exact ⟨by rw [hn]; rfl, q1⟩

theorem anySy (w : World) (s : Sl) (l : List Sy) (f : Value) (g : Sy → Bool) (h : Rd w sy 4 s l) (hl : l.length ≤ 1000000)
    (hf : ∀ (w' : World) (x : Sy) (K : Bool → World → Prop), Quiet w w' → x ∈ l → (∀ w'', Quiet w' w'' → K (g x) w'') → cv Try.prog f [syv x] (fun (r : Bool) => .bool r) w' K) :
    callC Try.prog 31 #[s.v, f] (fun (r : Bool) => .bool r) w fun r w' => r = l.any g ∧ Quiet w w' := by
  have hsl := h.len
  refine D31 _ _ w _ ?_
  unfold F31
  refine callC.use (R := fun r w' => decide (0 ≤ r) = l.any g ∧ Quiet w w') (D39 _ _ w _ ?_) fun r w' h => h
  unfold F39
  refine ⟨fun i w' => 0 ≤ i ∧ i ≤ l.length ∧ (l.take i.toNat).any g = false ∧ Quiet w w', fun i _ => (l.length - i).toNat, ⟨by omega, by omega, by simp, Only.refl _ _⟩, ?_⟩
  rintro i w1 ⟨i0, i1, hn, q1⟩
  refine ⟨fun hi => ?_, fun hi => ?_⟩
  · have hlt : i < l.length := by rw [hsl] at hi; exact of_decide_eq_true hi
    obtain ⟨x, hx⟩ := getq i0 hlt
    refine (h.keepQ q1).ixx i0 hx fun p hat _ => sy_ld hat (hf w1 x _ q1 (List.mem_of_getElem? hx) fun w2 q2 => ⟨fun hc => ⟨?_, q1.tr q2⟩, fun hc => ?_⟩)
    · rw [List.any_eq_true.2 ⟨x, List.mem_of_getElem? hx, hc⟩]
      exact decide_eq_true i0
    · rw [w64 (by omega) (by omega)]
      refine ⟨⟨by omega, by omega, ?_, q1.tr q2⟩, by (try dsimp only); omega⟩
      rw [toNat_succ i0, take_next hx, List.any_append, hn]
      simp [hc]
  · have hge : l.length ≤ i.toNat := by have := of_decide_eq_false hi; omega
    rw [List.take_of_length_le hge] at hn
    exact ⟨by rw [hn]; rfl, q1⟩

theorem anyPf (w : World) (s : Sl) (l : List Pf) (f : Value) (g : Pf → Bool) (h : Rd w pf 22 s l) (hl : l.length ≤ 1000000)
    (hf : ∀ (w' : World) (x : Pf) (K : Bool → World → Prop), Quiet w w' → x ∈ l → (∀ w'', Quiet w' w'' → K (g x) w'') → cv Try.prog f [pfv x] (fun (r : Bool) => .bool r) w' K) :
    callC Try.prog 35 #[s.v, f] (fun (r : Bool) => .bool r) w fun r w' => r = l.any g ∧ Quiet w w' := by
  have hsl := h.len
  refine D35 _ _ w _ ?_
  unfold F35
  refine callC.use (R := fun r w' => decide (0 ≤ r) = l.any g ∧ Quiet w w') (D42 _ _ w _ ?_) fun r w' h => h
  unfold F42
  refine ⟨fun i w' => 0 ≤ i ∧ i ≤ l.length ∧ (l.take i.toNat).any g = false ∧ Quiet w w', fun i _ => (l.length - i).toNat, ⟨by omega, by omega, by simp, Only.refl _ _⟩, ?_⟩
  rintro i w1 ⟨i0, i1, hn, q1⟩
  refine ⟨fun hi => ?_, fun hi => ?_⟩
  · have hlt : i < l.length := by rw [hsl] at hi; exact of_decide_eq_true hi
    obtain ⟨x, hx⟩ := getq i0 hlt
    refine (h.keepQ q1).ixx i0 hx fun p hat _ => pf_ld hat (hf w1 x _ q1 (List.mem_of_getElem? hx) fun w2 q2 => ⟨fun hc => ⟨?_, q1.tr q2⟩, fun hc => ?_⟩)
    · rw [List.any_eq_true.2 ⟨x, List.mem_of_getElem? hx, hc⟩]
      exact decide_eq_true i0
    · rw [w64 (by omega) (by omega)]
      refine ⟨⟨by omega, by omega, ?_, q1.tr q2⟩, by (try dsimp only); omega⟩
      rw [toNat_succ i0, take_next hx, List.any_append, hn]
      simp [hc]
  · have hge : l.length ≤ i.toNat := by have := of_decide_eq_false hi; omega
    rw [List.take_of_length_le hge] at hn
    exact ⟨by rw [hn]; rfl, q1⟩

theorem anyEv (w : World) (s : Sl) (l : List Ev) (f : Value) (g : Ev → Bool) (h : Rd w ev 12 s l) (hl : l.length ≤ 1000000)
    (hf : ∀ (w' : World) (x : Ev) (K : Bool → World → Prop), Quiet w w' → x ∈ l → (∀ w'', Quiet w' w'' → K (g x) w'') → cv Try.prog f [evv x] (fun (r : Bool) => .bool r) w' K) :
    callC Try.prog 41 #[s.v, f] (fun (r : Bool) => .bool r) w fun r w' => r = l.any g ∧ Quiet w w' := by
  have hsl := h.len
  refine D41 _ _ w _ ?_
  unfold F41
  refine callC.use (R := fun r w' => decide (0 ≤ r) = l.any g ∧ Quiet w w') (D43 _ _ w _ ?_) fun r w' h => h
  unfold F43
  refine ⟨fun i w' => 0 ≤ i ∧ i ≤ l.length ∧ (l.take i.toNat).any g = false ∧ Quiet w w', fun i _ => (l.length - i).toNat, ⟨by omega, by omega, by simp, Only.refl _ _⟩, ?_⟩
  rintro i w1 ⟨i0, i1, hn, q1⟩
  refine ⟨fun hi => ?_, fun hi => ?_⟩
  · have hlt : i < l.length := by rw [hsl] at hi; exact of_decide_eq_true hi
    obtain ⟨x, hx⟩ := getq i0 hlt
    refine (h.keepQ q1).ixx i0 hx fun p hat _ => ev_ld hat (hf w1 x _ q1 (List.mem_of_getElem? hx) fun w2 q2 => ⟨fun hc => ⟨?_, q1.tr q2⟩, fun hc => ?_⟩)
    · rw [List.any_eq_true.2 ⟨x, List.mem_of_getElem? hx, hc⟩]
      exact decide_eq_true i0
    · rw [w64 (by omega) (by omega)]
      refine ⟨⟨by omega, by omega, ?_, q1.tr q2⟩, by (try dsimp only); omega⟩
      rw [toNat_succ i0, take_next hx, List.any_append, hn]
      simp [hc]
  · have hge : l.length ≤ i.toNat := by have := of_decide_eq_false hi; omega
    rw [List.take_of_length_le hge] at hn
    exact ⟨by rw [hn]; rfl, q1⟩

theorem ap28 : appOK Try.prog 28 3 1 8 = true := by kernel_rfl
theorem ap37 : appOK Try.prog 37 43 4 32 = true := by kernel_rfl
theorem ap23 : appOK Try.prog 23 41 12 136 = true := by kernel_rfl
theorem netP_rng (a : Int) : -1 ≤ netP a ∧ netP a ≤ 11 := by
  unfold netP
  split
  · omega
  · rename_i h
    have h1 := Int.tmod_lt_of_pos a (show (0 : Int) < 12 by decide)
    have h2 := Int.tmod_nonneg 12 (show 0 ≤ a by omega)
    omega
theorem below_c (w : World) (a b : Int) : callC Try.prog 28 #[.int .i64 a, .int .i64 b] (fun (r : Bool) => .bool r) w fun r w' => r = decide (0 ≤ a ∧ a < b) ∧ w = w' := by
  refine D28 _ _ w _ ?_
  unfold F28
  exact ⟨by rw [Bool.decide_and], rfl⟩
theorem net_c (w : World) (a : Int) : callC Try.prog 18 #[.int .i64 a] (fun (r : Int) => .int .i64 r) w fun r w' => r = netP a ∧ w = w' := by
  refine D18 _ w _ ?_
  unfold F18
  refine (below_c w a 2000).use ?_
  rintro r w' ⟨rfl, rfl⟩
  unfold netP
  refine ⟨fun hc => ?_, fun hc => ?_⟩
  · have : ¬ (0 ≤ a ∧ a < 2000) := by simp at hc; omega
    rw [if_pos (by omega)]
    exact ⟨rfl, rfl⟩
  · have : 0 ≤ a ∧ a < 2000 := by simpa using hc
    rw [if_neg (by omega)]
    exact ⟨rfl, rfl⟩
theorem rnet_c (w : World) (a : Int) : callC Try.prog 23 #[.int .i64 a] (fun (r : Int) => .int .i64 r) w fun r w' => r = netP a ∧ w = w' := by
  refine D23 _ w _ ?_
  unfold F23
  unfold netP
  refine ⟨fun hc => ?_, fun hc => ?_⟩
  · have : a < 0 ∨ 1999 < a := by simpa using hc
    rw [if_pos this]
    exact ⟨rfl, rfl⟩
  · have : ¬ (a < 0 ∨ 1999 < a) := by simp at hc; omega
    rw [if_neg this]
    exact ⟨rfl, rfl⟩

theorem ends_c (w : World) (e : Ev) : callC Try.prog 37 #[evv e] (fun (r : Int × Bool) => .tuple #[.int .i64 r.1, .bool r.2]) w fun r w' => r = endsE e ∧ Quiet w w' := by
  refine D37 _ _ _ _ _ _ _ _ _ _ _ _ w _ ?_
  unfold F37
  refine nwL fun b w1 hb q _ _ _ => ?_
  have hb : IsEv w1 b e := hb
  unfold endsE
  refine hb.at.ld (j := 3) rfl ⟨fun hc => hb.at.ld (j := 0) rfl ⟨?_, q⟩, fun hc => jn.mk (fun r w' => r = (e.who, decide (e.kind = 7)) ∧ Quiet w w') ?_ ?_⟩
  · rw [if_pos (of_decide_eq_true hc)]
  · show tk w1 _
    unfold tk
    have qd : Quiet w1 w1.drew := Only.drew _ _
    exact (hb.keepQ qd).at.ld (j := 7) rfl ((hb.keepQ qd).at.ld (j := 3) rfl ⟨rfl, q.tr qd⟩)
  · rintro r w2 ⟨rfl, q2⟩
    rw [if_neg (of_decide_eq_false hc)]
    exact ⟨rfl, q2⟩

theorem in_c (w : World) (s : Sl) (l : List Ev) (a g : Int) (h : Rd w ev 12 s l) (hl : l.length ≤ 1000000) :
    callC Try.prog 36 #[s.v, .int .i64 a, .int .i64 g] (fun (r : Bool) => .bool r) w fun r w' => r = inP l.reverse a g ∧ Quiet w w' := by
  have hsl := h.len
  refine D36 _ _ _ w _ ?_
  unfold F36
  rw [hsl, w64 (by omega) (by omega)]
  refine ⟨fun i w' => -1 ≤ i ∧ i ≤ (l.length : Int) - 1 ∧ inP l.reverse a g = inP (l.take (i + 1).toNat).reverse a g ∧ Quiet w w', fun i _ => (i + 1).toNat, ⟨by omega, by omega, by rw [show ((l.length : Int) - 1 + 1).toNat = l.length by omega, List.take_length], Only.refl _ _⟩, ?_⟩
  rintro i w1 ⟨i0, i1, hn, q1⟩
  refine ⟨fun hi => ?_, fun hi => ?_⟩
  · have hi0 : 0 ≤ i := of_decide_eq_true hi
    obtain ⟨e, he⟩ := getq (l := l) hi0 (by omega)
    rw [toNat_succ hi0, take_next he, List.reverse_append, List.reverse_singleton, List.singleton_append, inP] at hn
    refine jn.mk (fun _ w' => inP l.reverse a g = inP (l.take i.toNat).reverse a g ∧ Quiet w w') ?_ ?_
    · refine (h.keepQ q1).ixx hi0 he fun p hat _ => ev_ld hat (ev_box fun b w4 hb q4 _ _ => ?_)
      have q14 := q1.tr q4
      refine hb.at.ld (j := 4) rfl ⟨fun hc => ⟨?_, q14⟩, fun hc => hb.at.ld (j := 3) rfl (jp.val (decide (e.kind = 5 ∧ e.who = a)) ⟨fun h5 => hb.at.ld (j := 7) rfl ?_, fun h5 => ?_⟩ ⟨fun h5 => ⟨?_, q14⟩, fun h5 => ?_⟩)⟩
      · have hg : ¬ e.group = g := by simpa using hc
        rw [hn, if_neg (fun c => hg c.2.2), if_neg (fun c : En e a g => hg c.2)]
      · have h5 := of_decide_eq_true h5
        simp [h5]
      · have h5 := of_decide_eq_false h5
        exact (decide_eq_false fun c => h5 c.1).symm
      · have hg : e.group = g := by simpa using hc
        have h5 := of_decide_eq_true h5
        rw [hn, if_pos ⟨h5.1, h5.2, hg⟩]
      · have hg : e.group = g := by simpa using hc
        have h5 := of_decide_eq_false h5
        rw [if_neg (fun c => h5 ⟨c.1, c.2.1⟩)] at hn
        refine ev_ld hb.at ((ends_c w4 e).use ?_)
        rintro r w5 ⟨rfl, q5⟩
        have := ends_En e a g
        refine ⟨fun hc => ⟨?_, q14.tr q5⟩, fun hc => ⟨?_, q14.tr q5⟩⟩
        · rw [Bool.and_eq_true, decide_eq_true_iff] at hc
          rw [hn, if_pos (this.1 ⟨hc, hg⟩)]
        · rw [hn, if_neg]
          intro c
          have c := this.2 c
          rw [c.1.1, c.1.2] at hc
          simp at hc
    · rintro _ w2 ⟨h2, q2⟩
      rw [w64 (by omega) (by omega)]
      refine ⟨⟨by omega, by omega, ?_, q2⟩, by (try dsimp only); omega⟩
      rw [show i - 1 + 1 = i by omega]
      exact h2
  · have : i = -1 := by have := of_decide_eq_false hi; omega
    subst this
    exact ⟨hn.symm, q1⟩

theorem rstays_c (w : World) (s : Sl) (l : List Ev) (h : Rd w ev 12 s l) (hl : l.length ≤ 1000000) (hc : s.len ≤ s.cap) :
    callC Try.prog 24 #[s.v] Sl.v w fun r w' => ∃ F, OwnF w' F 43 4 r ((S l).flatMap sy) ∧ Fresh w w' F := by
  have hsl := h.len
  refine D24 _ w _ ?_
  unfold F24
  refine ⟨fun (c : Sl × Int) w' => 0 ≤ c.2 ∧ c.2 ≤ l.length ∧ ∃ F, OwnF w' F 43 4 c.1 ((half l c.2.toNat).flatMap sy) ∧ Fresh w w' F, fun c _ => (l.length - c.2).toNat, ⟨by simp, by simp, _, by simpa [half_0] using OwnF.nil _ _ _ _, Fresh.none w⟩, ?_⟩
  rintro ⟨out, i⟩ w1 ⟨i0, i1, F, ho, hf⟩
  dsimp only at i0 i1 ho ⊢
  refine ⟨fun hi => ?_, fun hi => ?_⟩
  · have hlt : i < l.length := by rw [hsl] at hi; exact of_decide_eq_true hi
    obtain ⟨e, he⟩ := getq i0 hlt
    have hhl : (half l i.toNat).length ≤ i.toNat := by
      unfold half
      rw [List.length_map]
      have := S_len (l.take i.toNat)
      rw [List.length_take] at this
      omega
    have hol := (ho.rd sy_len (by decide)).len
    refine jn.mk (fun r w' => ∃ F, OwnF w' F 43 4 r ((half l (i.toNat + 1)).flatMap sy) ∧ Fresh w w' F) ?_ ?_
    · rw [half_succ l he]
      refine (h.keepQ hf.q).ixx i0 he fun p hat _ => ev_ld hat (ev_box fun b18 w4 hb18 q4 g4 l4 => ?_)
      refine jn.mk (fun b w' => b = !decide (e.kind = 5 ∧ inP (l.take i.toNat).reverse e.who e.group = false) ∧ Quiet w4 w') ?_ ?_
      · show tk w4 _
        unfold tk
        have qd : Quiet w4 w4.drew := Only.drew _ _
        have B := (hb18.keepQ qd).at
        refine B.ld (j := 3) rfl ⟨fun h5 => ⟨?_, qd⟩, fun h5 => B.ld (j := 7) rfl (B.ld (j := 4) rfl ?_)⟩
        · have : ¬ e.kind = 5 := by simpa using h5
          simp [this]
        · have h5 : e.kind = 5 := by simpa using h5
          refine rn_upto ap23 ((h.keepQ hf.q).keepQ (q4.tr qd)) hc i0 (by omega) fun r26 h26 _ _ => ?_
          refine ⟨B.cj rfl, B.cj rfl, B.cj rfl, (in_c _ r26 (l.take i.toNat) e.who e.group h26 (by rw [List.length_take]; omega)).use ?_⟩
          rintro r w7 ⟨rfl, q7⟩
          refine ⟨(hb18.keepQ (qd.tr q7)).at.cj rfl, ?_, qd.tr q7⟩
          simp [h5]
      · rintro c w8 ⟨rfl, q8⟩
        have q18 := q4.tr q8
        refine ⟨fun hc2 => ⟨F, ?_, hf.keep q18⟩, fun hc2 => ?_⟩
        · rw [if_neg (by simpa only [Bool.not_eq_true', decide_eq_false_iff_not] using hc2)]
          simpa using ho.keepQ q18
        have hc2 : e.kind = 5 ∧ inP (l.take i.toNat).reverse e.who e.group = false := by simpa using hc2
        rw [if_pos hc2, w64 (x := i + 1) (by omega) (by omega)]
        have B8 := (hb18.keepQ q8).at
        refine B8.ld (j := 7) rfl (B8.ld (j := 4) rfl (sy_box (x := ⟨e.who, e.group, i, -1⟩) fun b32 w10 hb32 q10 g10 l10 => ?_))
        have q110 := q18.tr q10
        refine ⟨fun k w' => i + 1 ≤ k ∧ k ≤ l.length ∧ Quiet w8 w' ∧ ∃ to, IsSy w' b32 ⟨e.who, e.group, i, to⟩ ∧ -1 ≤ to ∧ (to = -1 ∧ firstE (l.drop k.toNat) k e.who e.group = firstE (l.drop (i.toNat + 1)) (i + 1) e.who e.group ∨ 0 ≤ to ∧ to = firstE (l.drop (i.toNat + 1)) (i + 1) e.who e.group), fun k _ => (l.length - k).toNat,
          ⟨by omega, by omega, q10, -1, hb32, by omega, .inl ⟨rfl, by rw [toNat_succ i0]⟩⟩, ?_⟩
        rintro k w11 ⟨k0, k1, q11, to, hb, ht0, ht⟩
        refine jp.mk (fun c => c = decide (k < l.length ∧ to < 0)) ⟨fun hk => hb.at.ld (j := 3) rfl ?_, fun hk => ?_⟩ ?_
        · have := of_decide_eq_true hk
          show decide (to < 0) = decide _
          rw [decide_eq_decide]
          omega
        · have := of_decide_eq_false hk
          exact (decide_eq_false (by omega)).symm
        rintro _ rfl
        refine ⟨fun hk => ?_, fun hk => ?_⟩
        · have hk := of_decide_eq_true hk
          obtain ⟨e', he'⟩ := getq (l := l) (i := k) (by omega) hk.1
          have ht : to = -1 ∧ firstE (l.drop k.toNat) k e.who e.group = firstE (l.drop (i.toNat + 1)) (i + 1) e.who e.group := by
            rcases ht with ht | ht
            · exact ht
            · omega
          rw [drop_next he', firstE] at ht
          refine jn.mk (fun _ w' => Quiet w8 w' ∧ ∃ to, IsSy w' b32 ⟨e.who, e.group, i, to⟩ ∧ -1 ≤ to ∧ (to = -1 ∧ firstE (l.drop (k.toNat + 1)) (k + 1) e.who e.group = firstE (l.drop (i.toNat + 1)) (i + 1) e.who e.group ∨ 0 ≤ to ∧ to = firstE (l.drop (i.toNat + 1)) (i + 1) e.who e.group)) ?_ ?_
          · have hev := (h.keepQ hf.q).keepQ (q18.tr q11)
            refine hev.ixx (by omega) he' fun p hat _ => ev_ld hat ((ends_c w11 e').use ?_)
            rintro r w13 ⟨rfl, q13⟩
            have q813 := q11.tr q13
            refine jn.mk (fun b w' => b = decide (En e' e.who e.group) ∧ Quiet w13 w') ?_ ?_
            · show tk w13 _
              unfold tk
              have qd : Quiet w13 w13.drew := Only.drew _ _
              have hE := ends_En e' e.who e.group
              have B9 := (hb18.keepQ (q8.tr (q813.tr qd))).at
              refine ⟨fun h2 => B9.ld (j := 7) rfl ⟨fun h3 => (hev.keepQ (q13.tr qd)).ixx (by omega) he' fun p' hat' _ => hat'.ld (j := 4) rfl (B9.ld (j := 4) rfl ⟨?_, qd⟩), fun h3 => ⟨?_, qd⟩⟩, fun h2 => ⟨?_, qd⟩⟩
              · rw [decide_eq_decide, ← hE]
                exact ⟨fun c => ⟨⟨h2, of_decide_eq_true h3⟩, c⟩, fun c => c.2⟩
              · exact (decide_eq_false fun c => of_decide_eq_false h3 (hE.2 c).1.2).symm
              · exact (decide_eq_false fun c => by have := (hE.2 c).1.1; rw [h2] at this; cases this).symm
            · rintro b w15 ⟨rfl, q15⟩
              have q1115 := q13.tr q15
              have hb15 := hb.keepQ q1115
              refine ⟨fun hE => ?_, fun hE => ⟨q11.tr q1115, to, hb15, ht0, .inl ⟨ht.1, ?_⟩⟩⟩
              · have hE := of_decide_eq_true hE
                have hb15' : Blk w15 b32 43 (sy ⟨e.who, e.group, i, to⟩).toArray := hb15
                refine hb15'.st (i := 3) (Nat.le_refl 4) fun w16 hb16 on16 s16 => ⟨?_, k, hb16, by omega, .inr ⟨by omega, ?_⟩⟩
                · exact Quiet.new (q11.tr q1115) on16 fun x hx => by subst hx; exact g10
                · rw [← ht.2, if_pos hE]
              · rw [← ht.2, if_neg (of_decide_eq_false hE)]
          · rintro _ w12 ⟨q12, to', hb', ht0', ht'⟩
            rw [w64 (x := k + 1) (by omega) (by omega)]
            exact ⟨⟨by omega, by omega, q12, to', hb', ht0', by rw [toNat_succ (by omega)]; exact ht'⟩, by (try dsimp only); omega⟩
        · have hk := of_decide_eq_false hk
          have hto : to = firstE (l.drop (i.toNat + 1)) (i + 1) e.who e.group := by
            rcases ht with ⟨rfl, ht⟩ | ht
            · rw [← ht, List.drop_of_length_le (by omega)]
              rfl
            · exact ht.2
          have q111 := q18.tr q11
          refine sy_ld hb.at (OwnF.push (news := sy ⟨e.who, e.group, i, to⟩) ap37 (ho.keepQ q111) rfl rfl (by unfold maxLen; omega) (by omega) fun r w18 F' o18 _ st18 => ⟨F', ?_, (hf.keep q111).stp st18⟩)
          rw [show ((i.toNat : Nat) : Int) = i by omega, ← hto]
          simpa using o18
    · rintro r w2 ⟨F', o', f'⟩
      rw [w64 (by omega) (by omega)]
      refine ⟨⟨by (try dsimp only); omega, by (try dsimp only); omega, F', ?_, f'⟩, by (try dsimp only); omega⟩
      show OwnF w2 F' 43 4 r ((half l (i + 1).toNat).flatMap sy)
      rw [toNat_succ i0]
      exact o'
  · have : i.toNat = l.length := by have := of_decide_eq_false hi; omega
    rw [this, half_all] at ho
    exact ⟨F, ho, hf⟩
end Go.Proofs.Ytcnnnhligkpamaa
