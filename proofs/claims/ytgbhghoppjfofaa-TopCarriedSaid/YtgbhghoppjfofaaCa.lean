import Derived.Test.YtgbhghoppjfofaaAl
namespace Go.Proofs.Ytgbhghoppjfofaa
open Go.Dec Go.RowKit Go.Top
set_option maxHeartbeats 2000000
set_option maxRecDepth 10000

/-! ### the story, step by step -/
structure St (nk : Int → NetK) (m : Nat) (tm : Int → Nat) (t : Int) (ws tk : List Wt) (gn : List (Int × Int × Int)) : Prop where
  i0 : Inv0 t ws tk gn
  i1 : ∀ n, n = 0 ∨ n = 1 → Inv1 (nk n) n (tm n) ws tk gn
  tn : ∀ x ∈ tk, x.net = 0 ∨ x.net = 1
  ln : tk.length ≤ m
theorem St.wl {nk : Int → NetK} {m : Nat} {tm : Int → Nat} {t : Int} {ws tk : List Wt} {gn : List (Int × Int × Int)} (S : St nk m tm t ws tk gn) : ws.length ≤ m ∧ gn.length ≤ m ∧ gn.length + ws.length ≤ m := by
  have := S.i0.len
  have := S.ln
  omega
theorem St.put {nk : Int → NetK} {m tn : Nat} {ws tk out : List Wt} {gn : List (Int × Int × Int)} {x : Wt} {e : Int} (S : St nk m (fun _ => tn) tn ws tk gn) (hx : x.net = 0 ∨ x.net = 1)
    (h : PutR (nk x.net).ok (nk x.net).rate (nk x.net).win (nk x.net).down tn ws x e out) (he : e = 0) (hok : ∀ n, (nk n).ok → 0 ≤ (nk n).rate ∧ (0 < (nk n).down → 0 < (nk n).win)) : St nk (m + 1) (fun _ => tn) tn out (tk ++ [x]) gn := by
  obtain ⟨_, _, _, ok, _⟩ := h.yes he
  refine ⟨S.i0.put h he, fun n hn => ?_, fun y hy => ?_, by rw [List.length_append, List.length_singleton]; have := S.ln; omega⟩
  · by_cases e1 : n = x.net
    · subst e1
      exact (S.i1 _ hx).put h he S.i0.qw (hok _ ok).2 (hok _ ok).1
    · exact (S.i1 n hn).put_other h he (fun c => e1 c.symm)
  · rcases List.mem_append.1 hy with hy | hy
    · exact S.tn y hy
    · simp at hy
      exact hy ▸ hx
theorem St.more {nk : Int → NetK} {m m' : Nat} {tm : Int → Nat} {t : Int} {ws tk : List Wt} {gn : List (Int × Int × Int)} (S : St nk m tm t ws tk gn) (h : m ≤ m') : St nk m' tm t ws tk gn := ⟨S.i0, S.i1, S.tn, Nat.le_trans S.ln h⟩
theorem St.serve {nk : Int → NetK} {m tn : Nat} {ws tk left : List Wt} {gn : List (Int × Int × Int)} {n : Int} {up : Bool} {done : List Int} (S : St nk m (fun k => if k < n then tn + 1 else tn) tn ws tk gn) (hn : n = 0 ∨ n = 1)
    (hl : ∀ k, k = 0 ∨ k = 1 → tn < (nk k).u.length) (hok : ∀ n, (nk n).ok → 0 ≤ (nk n).rate ∧ (0 < (nk n).down → 0 < (nk n).win)) (hu : (nk n).u[tn]? = some up)
    (h : (up = true ∧ (nk n).ok ∧ StepR (nk n).rate n ws done left) ∨ (¬ (up = true ∧ (nk n).ok) ∧ done = [] ∧ left = ws)) :
    St nk m (fun k => if k < n + 1 then tn + 1 else tn) tn left tk (gn ++ done.map fun e => (e, n, (tn : Int))) ∧ done.length + left.length = ws.length := by
  have hnn : ¬ n < n := Int.lt_irrefl n
  have hn1 : n < n + 1 := by omega
  rcases h with ⟨rfl, ok, hs⟩ | ⟨hno, rfl, rfl⟩
  · obtain ⟨hs, hlen⟩ := hs.served (hok n ok).1 S.i0.qw
    refine ⟨⟨S.i0.served hs hlen (by omega), fun k hk => ?_, S.tn, S.ln⟩, hlen⟩
    by_cases e : k = n
    · subst e
      have := S.i1 k hk
      simp only [hnn, if_false] at this
      simp only [hn1, if_true]
      exact this.served hs (fun ok => (hok k ok).1) S.i0 hu
    · have hiff : (k < n + 1) = (k < n) := by
        rw [eq_iff_iff]
        omega
      have := S.i1 k hk
      simp only [hiff]
      refine this.other hs e (fun ok => (hok k ok).1) S.i0 ?_ ?_
      · split <;> omega
      · have := hl k hk
        split <;> omega
  · refine ⟨⟨?_, fun k hk => ?_, S.tn, S.ln⟩, by simp⟩
    · simpa using S.i0
    · by_cases e : k = n
      · subst e
        have := S.i1 k hk
        simp only [hnn, if_false] at this
        simp only [hn1, if_true, List.map_nil, List.append_nil]
        refine this.idle fun ok => ?_
        have : up = false := by
          cases up with
          | false => rfl
          | true => exact absurd ⟨rfl, ok⟩ hno
        rw [← this]
        exact hu
      · have hiff : (k < n + 1) = (k < n) := by
          rw [eq_iff_iff]
          omega
        simp only [hiff, List.map_nil, List.append_nil]
        exact S.i1 k hk
theorem Objs_n0 {W w w' : World} {F G H I F' : Nat → Prop} (h : Objs W w (four F G H I)) (f : Fresh w w' F') : Objs W w' (four F' G H I) := (h.new 0 f).congr (four_upd 0 F')
theorem Rd_again {α : Type} {w : World} {c : α → List Value} {sz : Nat} {s : Sl} {l : List α} {i : Nat} {x : α} {p : Addr} (h : Rd w c sz s l) (hx : l[i]? = some x) (hp : ∃ ad, s.a = some ad ∧ p = ad.add (i * sz)) : AtC w p (c x) := by
  obtain ⟨ad, e, rfl⟩ := hp
  obtain ⟨ad', e', hat⟩ := h.2 _ x hx
  rw [e] at e'
  injection e' with e'
  exact e' ▸ hat
def gt (g : Int × Int × Int) : List Value := [.int .i64 g.1, .int .i64 g.2.1, .int .i64 g.2.2]
theorem gt_len (g : Int × Int × Int) : (gt g).length = 3 := rfl
def slv (s : Sl) : List Value := [Sl.v s]
theorem slv_len (s : Sl) : (slv s).length = 1 := rfl
def cu (x : Int) : List Value := [.int .u8 x]
theorem cu_len (x : Int) : (cu x).length = 1 := rfl
theorem apG : appOK Try.prog 32 41 3 24 = true := by kernel_rfl
theorem u3I : Try.prog.underlying 41 = some (.array 3 3) := by kernel_rfl
theorem szI : ∃ inf, Try.prog.info? 3 = some inf ∧ inf.size = 1 := by
  obtain ⟨i, z, _, h, _, hs, _⟩ := appOK.out apI
  exact ⟨i, h, hs⟩
theorem short_c (w : World) (a : Ap) (s : Sl) : callC Try.prog 5 #[pfv (pfOf a s)] (fun (r : Bool) => .bool r) w fun _ w' => Quiet w w' := by
  refine D5 _ _ _ _ _ _ _ _ _ _ _ _ _ _ _ _ _ _ _ _ _ _ w _ ?_
  unfold F5
  refine nwL fun b1 w1 hb1 q1 _ _ _ => ?_
  have A : AtC w1 (Addr.mk b1 0 none) (pf (pfOf a s)) := IsPf.at hb1
  exact A.ld (j := 12) rfl (jp_and (v := decide ((a.name.size : Int) ≤ 100)) (fun _ J hJ => A.ld (j := 0) rfl hJ) q1)
theorem when_c (w : World) (s : Sl) (g : List (Int × Int × Int)) (e n : Int) (h : Rd w gt 3 s g) (hl : g.length ≤ 1000000) :
    callC Try.prog 9 #[s.v, .int .i64 e, .int .i64 n] (fun (r : Int) => .int .i64 r) w fun r w' => r = whn g e n ∧ w = w' := by
  have hsl := h.len
  refine D9 _ _ _ w _ ?_
  unfold F9
  refine ⟨fun i w' => 0 ≤ i ∧ i ≤ g.length ∧ whn g e n = whn (g.drop i.toNat) e n ∧ w = w', fun i _ => (g.length - i).toNat, ⟨by omega, by omega, rfl, rfl⟩, ?_⟩
  rintro i w' ⟨i0, i1, hw, rfl⟩
  refine ⟨fun hi => ?_, fun hi => ⟨?_, rfl⟩⟩
  · have hlt : i < g.length := by rw [hsl] at hi; exact of_decide_eq_true hi
    obtain ⟨x, hx⟩ := getq i0 hlt
    have hdrop : g.drop i.toNat = x :: g.drop (i.toNat + 1) := by
      obtain ⟨hk, rfl⟩ := List.getElem?_eq_some_iff.1 hx
      rw [List.getElem_cons_drop]
    rw [hdrop] at hw
    simp only [whn] at hw
    refine h.ixx i0 hx fun p hat _ => rn_arr u3I szI (by decide) (by decide) (hat.ld (j := 0) rfl (jn.mk (fun c w' => c = decide (x.1 = e ∧ x.2.1 = n) ∧ w' = w) ⟨fun g1 => ?_, fun g1 => ⟨?_, rfl⟩⟩ ?_))
    · refine h.ixx i0 hx fun p2 hat2 _ => rn_arr u3I szI (by decide) (by decide) (hat2.ld (j := 1) rfl ⟨?_, rfl⟩)
      rw [decide_eq_decide]
      exact ⟨fun c => ⟨of_decide_eq_true g1, c⟩, fun c => c.2⟩
    · symm
      rw [decide_eq_false_iff_not]
      exact fun c => of_decide_eq_false g1 c.1
    rintro c w2 ⟨rfl, rfl⟩
    refine ⟨fun g1 => ?_, fun g1 => ?_⟩
    · refine h.ixx i0 hx fun p2 hat2 _ => rn_arr u3I szI (by decide) (by decide) (hat2.ld (j := 2) rfl ⟨?_, rfl⟩)
      rw [hw, if_pos (of_decide_eq_true g1)]
    · rw [if_neg (of_decide_eq_false g1)] at hw
      rw [w64 (by omega) (by omega)]
      refine ⟨⟨by omega, by omega, ?_, rfl⟩, by (try dsimp only); omega⟩
      rw [toNat_succ i0]
      exact hw
  · rw [hw, List.drop_of_length_le (by have := of_decide_eq_false hi; omega)]
    rfl
theorem carried_c (w : World) (a b : Ap) (sa sb sl sat s1 s2 : Sl) (l : List Wt) (at_ : List Int) (one two : List Bool) (ha : Rd w cb 1 sa a.types) (hca : sa.len ≤ sa.cap) (hb : Rd w cb 1 sb b.types) (hcb : sb.len ≤ sb.cap)
    (hl : Rd w wt 4 sl l) (hat : Rd w cu 1 sat at_) (h1 : Rd w cbo 1 s1 one) (h2 : Rd w cbo 1 s2 two) :
    callC Try.prog 3 #[pfv (pfOf a sa), pfv (pfOf b sb), sl.v, sat.v, s1.v, s2.v] (fun (r : Bool) => .bool r) w fun r w' => r = true ∧ Quiet w w' := by
  have e1 := hl.len
  have e2 := hat.len
  have e3 := h1.len
  have e4 := h2.len
  refine D3 _ _ _ _ _ _ _ _ _ _ _ _ _ _ _ _ _ _ _ _ _ _ _ _ _ _ _ _ _ _ _ _ _ _ _ _ _ _ _ _ _ _ _ _ _ _ _ _ w _ ?_
  unfold F3
  refine nwL fun b9 w1 hb9 q1 _ _ _ => nwL fun b10 w2 hb10 q2 _ _ _ => ?_
  have hA2 : IsPf w2 b9 (pfOf a sa) := Blk.keepQ hb9 q2
  have hB2 : IsPf w2 b10 (pfOf b sb) := hb10
  refine (alive_c w2).use ?_
  rintro r11 w3 ⟨rfl, q3⟩
  refine pf_ld (hA2.keepQ q3).at ((short_c w3 a sa).use ?_)
  rintro r34 w4 q4
  have q24 := q3.tr q4
  refine jn.mk (fun _ w' => Quiet w2 w') ⟨fun _ => q24, fun _ => pf_ld (hB2.keepQ q24).at ((short_c w4 b sb).use fun _ w5 q5 => q24.tr q5)⟩ ?_
  rintro c60 w6 q6
  have q06 : Quiet w w6 := (q1.tr q2).tr q6
  refine ⟨fun _ => ⟨rfl, q06⟩, fun g => ?_⟩
  simp only [Bool.or_eq_false_iff] at g
  obtain ⟨⟨⟨⟨⟨_, g1⟩, g2⟩, g3⟩, g4⟩, g5⟩ := g
  have g1 := of_decide_eq_false g1
  have g2 := of_decide_eq_false g2
  have g3 := of_decide_eq_false g3
  have g4 := of_decide_eq_false g4
  have g5 := nt g5
  refine pf_ld (hA2.keepQ q6).at (pf_ld (hB2.keepQ q6).at (nwL fun b116 w7 hb116 q7 _ _ _ => nwL fun b117 W hb117 q8 _ _ _ => ?_))
  have q0W := (q06.tr q7).tr q8
  have hlinks : Rd W pf 22 (⟨some ⟨b116, 0, none⟩, 2, 2⟩ : Sl) [pfOf a sa, pfOf b sb] := (pf_row (l := [pfOf a sa, pfOf b sb]) hb116 rfl rfl).keepQ q8
  have hups : Rd W slv 1 (⟨some ⟨b117, 0, none⟩, 2, 2⟩ : Sl) [s1, s2] := by
    refine ⟨rfl, fun i u hu => ⟨_, rfl, fun j v hv => ?_⟩⟩
    rw [mk_add, mk_add, Blk.cell hb117]
    have := flat_at slv_len hu hv
    simpa [slv] using this
  -- the two networks
  obtain ⟨pr, hpr0, hpr1⟩ : ∃ pr : Int → Ap × Sl, pr 0 = (a, sa) ∧ pr 1 = (b, sb) := ⟨fun n => if n = 0 then (a, sa) else (b, sb), rfl, rfl⟩
  obtain ⟨us, hus0, hus1⟩ : ∃ us : Int → Sl × List Bool, us 0 = (s1, one) ∧ us 1 = (s2, two) := ⟨fun n => if n = 0 then (s1, one) else (s2, two), rfl, rfl⟩
  have hpr : ∀ n : Int, n = 0 ∨ n = 1 → [pfOf a sa, pfOf b sb][n.toNat]? = some (pfOf (pr n).1 (pr n).2) := by
    rintro n (rfl | rfl)
    · rw [hpr0]; rfl
    · rw [hpr1]; rfl
  have hty : ∀ n : Int, n = 0 ∨ n = 1 → Rd w cb 1 (pr n).2 (pr n).1.types ∧ (pr n).2.len ≤ (pr n).2.cap := by
    rintro n (rfl | rfl)
    · rw [hpr0]; exact ⟨ha, hca⟩
    · rw [hpr1]; exact ⟨hb, hcb⟩
  have hus : ∀ n : Int, n = 0 ∨ n = 1 → [s1, s2][n.toNat]? = some (us n).1 ∧ Rd w cbo 1 (us n).1 (us n).2 ∧ (us n).2.length = one.length := by
    rintro n (rfl | rfl)
    · rw [hus0]; exact ⟨rfl, h1, rfl⟩
    · rw [hus1]; exact ⟨rfl, h2, by show two.length = one.length; omega⟩
  obtain ⟨nk, hnk⟩ : ∃ nk : Int → NetK, ∀ n, nk n = ⟨CheckA (pr n).1 = 0, (pr n).1.rate, (pr n).1.window, (pr n).1.down, (us n).2⟩ := ⟨_, fun n => rfl⟩
  have hok : ∀ n, (nk n).ok → 0 ≤ (nk n).rate ∧ (0 < (nk n).down → 0 < (nk n).win) := fun n h => by
    rw [hnk] at h ⊢
    have c0 := check_ok h
    have c1 := c0.rate
    have c2 := c0.lt
    have c3 := c0.win
    dsimp only
    omega
  have hnl : ∀ n, n = 0 ∨ n = 1 → (nk n).u.length = one.length := fun n hn => by
    rw [hnk]
    exact (hus n hn).2.2
  clear hpr0 hpr1 hus0 hus1 ha hb hca hcb
  refine ⟨fun c w' => 0 ≤ c.2.2.2 ∧ c.2.2.2 ≤ one.length ∧ ∃ (ws tk : List Wt) (gn : List (Int × Int × Int)) (Fw Ft Fg : Nat → Prop), OwnF w' Fw 34 4 c.1 (ws.flatMap wt) ∧ OwnF w' Ft 34 4 c.2.1 (tk.flatMap wt) ∧ OwnF w' Fg 41 3 c.2.2.1 (gn.flatMap gt) ∧ Objs W w' (four Fw Ft Fg fun _ => False) ∧
      St nk (14 * c.2.2.2.toNat) (fun _ => c.2.2.2.toNat) c.2.2.2 ws tk gn, fun c _ => ((one.length : Int) - c.2.2.2).toNat,
    ⟨Int.le_refl _, by (try dsimp only); omega, [], [], [], _, _, _, OwnF.nil _ _ _ _, OwnF.nil _ _ _ _, OwnF.nil _ _ _ _, (Objs.start W).none4, ⟨⟨QW.nil, fun g hg => (by simp at hg), rfl⟩, fun n _ => ⟨fun _ _ y hy => (by simp at hy), fun _ _ y hy => (by simp at hy)⟩, fun x hx => (by simp at hx), by simp⟩⟩, ?_⟩
  rintro ⟨wsl, tsl, gsl, t⟩ w9 ⟨t0, t1, ws, tk, gn, Fw, Ft, Fg, ow, ot, og, O9, S9⟩
  dsimp only at t0 t1 ow ot og S9 ⊢
  obtain ⟨tn, rfl⟩ := Int.eq_ofNat_of_zero_le t0
  rw [Int.toNat_natCast] at S9
  refine ⟨fun ht => ?_, fun ht => ?_⟩
  · have ht : tn < one.length := by have := of_decide_eq_true ht; omega
    refine ⟨fun c w' => 0 ≤ c.2.2 ∧ c.2.2 ≤ l.length ∧ ∃ (ws tk : List Wt) (Fw Ft : Nat → Prop), OwnF w' Fw 34 4 c.1 (ws.flatMap wt) ∧ OwnF w' Ft 34 4 c.2.1 (tk.flatMap wt) ∧ OwnF w' Fg 41 3 gsl (gn.flatMap gt) ∧ Objs W w' (four Fw Ft Fg fun _ => False) ∧
      St nk (14 * tn + c.2.2.toNat) (fun _ => tn) tn ws tk gn, fun c _ => ((l.length : Int) - c.2.2).toNat, ⟨Int.le_refl _, by (try dsimp only); omega, ws, tk, Fw, Ft, ow, ot, og, O9, S9⟩, ?_⟩
    clear ow ot og O9 S9
    clear ws tk Fw Ft
    rintro ⟨wsl, tsl, i⟩ w10 ⟨i0, i1, ws, tk, Fw, Ft, ow, ot, og, O, S⟩
    dsimp only at i0 i1 ow ot S ⊢
    have qW : Quiet W w10 := Quiet.ofBelow O.bl
    have q0 := q0W.tr qW
    have hwl := S.wl
    have htl := S.ln
    refine ⟨fun hi => ?_, fun hi => ?_⟩
    · have hlt : i < l.length := by have := of_decide_eq_true hi; omega
      obtain ⟨x, hx⟩ := getq i0 hlt
      obtain ⟨av, hav⟩ := getq (l := at_) i0 (by omega)
      have hlw := hl.keepQ q0
      refine jn.mk (fun c w' => ∃ (ws tk : List Wt) (Fw Ft : Nat → Prop), OwnF w' Fw 34 4 c.1 (ws.flatMap wt) ∧ OwnF w' Ft 34 4 c.2 (tk.flatMap wt) ∧ OwnF w' Fg 41 3 gsl (gn.flatMap gt) ∧ Objs W w' (four Fw Ft Fg fun _ => False) ∧ St nk (14 * tn + (i.toNat + 1)) (fun _ => tn) tn ws tk gn) ?_ ?_
      · refine (hat.keepQ q0).ixx i0 hav fun p hp _ => hp.ld0 rfl (jp_or (v := decide (x.net < 0)) (fun _ J hJ => hlw.ixx i0 hx fun p2 hat2 _ => hat2.ld (j := 1) rfl hJ) (jp_or (v := decide (1 < x.net)) (fun _ J hJ => hlw.ixx i0 hx fun p2 hat2 _ => hat2.ld (j := 1) rfl hJ) ⟨fun _ => ⟨ws, tk, Fw, Ft, ow, ot, og, O, S.more (by omega)⟩, fun g => ?_⟩))
        simp only [Bool.or_eq_false_iff] at g
        have gn0 := of_decide_eq_false g.1.2
        have gn1 := of_decide_eq_false g.2
        have hn : x.net = 0 ∨ x.net = 1 := by omega
        obtain ⟨hty1, hty2⟩ := hty x.net hn
        refine jn.mk (fun c w' => ∃ (out : List Wt) (F : Nat → Prop), PutR (CheckA (pr x.net).1 = 0) (pr x.net).1.rate (pr x.net).1.window (pr x.net).1.down tn ws x c.2 out ∧ OwnF w' F 34 4 c.1 (out.flatMap wt) ∧ Fresh w10 w' F) ?_ ?_
        · show Go.Dec.tk _ _
          unfold Go.Dec.tk
          have qd : Quiet w10 w10.drew := Only.drew _ _
          refine (hlw.keepQ qd).ixx i0 hx fun p1 hat1 hp1 => hat1.ld (j := 1) rfl ((hlinks.keepQ (qW.tr qd)).ixx (by omega) (hpr _ hn) fun p2 hat2 _ => pf_ld hat2 ((hlw.keepQ qd).ixx i0 hx fun p3 hat3 _ => wt_ld hat3 ?_))
          refine (put_c _ (pr x.net).1 (pr x.net).2 wsl ws x tn (hty1.keepQ (q0.tr qd)) hty2 ((ow.keepQ qd).rd wt_len (by decide)) ow.cap S.i0.qw (by omega) (by omega) (by omega)).use ?_
          rintro r w13 ⟨out, F, hp, oo, f⟩
          exact ⟨(Rd_again (hlw.keepQ (qd.tr f.q)) hx hp1).cj (j := 1) rfl, out, F, hp, oo, f.after qd⟩
        rintro ⟨r1, e⟩ w14 ⟨out, F, hput, oo, f⟩
        dsimp only at hput oo ⊢
        have O14 := Objs_n0 O f
        have ot14 := ot.keepQ f.q
        have og14 := og.keepQ f.q
        have hput' : PutR (nk x.net).ok (nk x.net).rate (nk x.net).win (nk x.net).down tn ws x e out := by
          rw [hnk]
          exact hput
        refine jn.mk (fun c w' => ∃ (tk : List Wt) (Ft : Nat → Prop), OwnF w' F 34 4 r1 (out.flatMap wt) ∧ OwnF w' Ft 34 4 c (tk.flatMap wt) ∧ OwnF w' Fg 41 3 gsl (gn.flatMap gt) ∧ Objs W w' (four F Ft Fg fun _ => False) ∧ St nk (14 * tn + (i.toNat + 1)) (fun _ => tn) tn out tk gn) ⟨fun g0 => ?_, fun g0 => ?_⟩ ?_
        · have he : e = 0 := of_decide_eq_true g0
          have htsl : tsl.len = tk.length := (ot.rd wt_len (by decide)).len
          refine (hlw.keepQ f.q).ixx i0 hx fun p4 hat4 _ => wt_ld hat4 (OwnF.push (news := wt x) apW ot14 rfl rfl (by unfold maxLen; omega) (by omega) fun r w17 F' o17 _ st17 => ?_)
          have hd4 := O14.dj4
          refine ⟨tk ++ [x], F', oo.keep st17.only hd4.1, ?_, og14.keep st17.only hd4.2.2.2.2.2, O14.t1 st17, S.put hn hput' he hok⟩
          rw [List.flatMap_append, List.flatMap_singleton]
          exact o17
        · have he : e ≠ 0 := of_decide_eq_false g0
          have hout := hput'.no he
          subst hout
          refine ⟨fun gl => absurd ?_ (nd gl), fun _ => ⟨tk, Ft, oo, ot14, og14, O14, S.more (by omega)⟩⟩
          have l1 : r1.len = out.length := (oo.rd wt_len (by decide)).len
          have l2 : wsl.len = out.length := (ow.rd wt_len (by decide)).len
          omega
        rintro r w15 ⟨tk', Ft', h⟩
        exact ⟨out, tk', F, Ft', h⟩
      rintro ⟨r1, r2⟩ w11 ⟨ws', tk', Fw', Ft', o1, o2, o3, o4, o5⟩
      rw [w64 (by omega) (by omega)]
      refine ⟨⟨by (try dsimp only); omega, by (try dsimp only); omega, ws', tk', Fw', Ft', o1, o2, o3, o4, ?_⟩, by (try dsimp only); omega⟩
      (try dsimp only)
      rw [toNat_succ i0]
      exact o5
    · have hil : i.toNat ≤ 14 := by omega
      refine ⟨fun c w' => 0 ≤ c.2.2 ∧ c.2.2 ≤ 2 ∧ ∃ (ws : List Wt) (gn : List (Int × Int × Int)) (Fw Fg : Nat → Prop), OwnF w' Fw 34 4 c.1 (ws.flatMap wt) ∧ OwnF w' Ft 34 4 tsl (tk.flatMap wt) ∧ OwnF w' Fg 41 3 c.2.1 (gn.flatMap gt) ∧ Objs W w' (four Fw Ft Fg fun _ => False) ∧
        St nk (14 * tn + 14) (fun k => if k < c.2.2 then tn + 1 else tn) tn ws tk gn, fun c _ => (2 - c.2.2).toNat, ⟨Int.le_refl _, by (try dsimp only); omega, ws, gn, Fw, Fg, ow, ot, og, O, ?_⟩, ?_⟩
      · have S' := S.more (m' := 14 * tn + 14) (by omega)
        refine ⟨S'.i0, fun n hn => ?_, S'.tn, S'.ln⟩
        have := S'.i1 n hn
        rw [if_neg (by dsimp only; omega)]
        exact this
      clear ow og O S hwl qW q0
      clear ws Fw Fg gn
      rintro ⟨wsl, gsl, n⟩ w18 ⟨n0, n1, ws, gn, Fw, Fg, ow, ot, og, O, S⟩
      dsimp only at n0 n1 ow og S ⊢
      have qW : Quiet W w18 := Quiet.ofBelow O.bl
      have q0 := q0W.tr qW
      have hwl := S.wl
      refine ⟨fun hn2 => ?_, fun hn2 => ?_⟩
      · have hn : n = 0 ∨ n = 1 := by have := of_decide_eq_true hn2; omega
        obtain ⟨hty1, hty2⟩ := hty n hn
        obtain ⟨hu1, hu2, hu3⟩ := hus n hn
        obtain ⟨up, hup⟩ : ∃ up, (us n).2[((tn : Int)).toNat]? = some up := ⟨_, List.getElem?_eq_getElem (by rw [Int.toNat_natCast]; omega)⟩
        refine jn.mk (fun c w' => ∃ (done : List Int) (left : List Wt) (F G : Nat → Prop), OwnF w' F 3 1 c.1 (done.flatMap ci) ∧ OwnF w' G 34 4 c.2 (left.flatMap wt) ∧ Fresh w18 w' F ∧ Fresh w18 w' G ∧
          ((up = true ∧ CheckA (pr n).1 = 0 ∧ StepR (pr n).1.rate n ws done left) ∨ (¬ (up = true ∧ CheckA (pr n).1 = 0) ∧ done = [] ∧ left = ws))) ?_ ?_
        · show Go.Dec.tk _ _
          unfold Go.Dec.tk
          have qd : Quiet w18 w18.drew := Only.drew _ _
          refine (hlinks.keepQ (qW.tr qd)).ixx n0 (hpr _ hn) fun p2 hat2 _ => pf_ld hat2 ((hups.keepQ (qW.tr qd)).ixx n0 hu1 fun p3 hat3 hp3 => hat3.ld0 rfl ((hu2.keepQ (q0.tr qd)).ixx (by omega) hup fun p4 hat4 _ => hat4.ld0 rfl ?_))
          refine (step_c _ (pr n).1 (pr n).2 wsl ws n up (hty1.keepQ (q0.tr qd)) hty2 ((ow.keepQ qd).rd wt_len (by decide)) ow.cap S.i0.qw (by omega)).use ?_
          rintro r w20 ⟨done, left, F, G, o1, o2, f1, f2, hh⟩
          exact ⟨by simpa using (Rd_again (hups.keepQ ((qW.tr qd).tr f1.q)) hu1 hp3).cj (j := 0) rfl, done, left, F, G, o1, o2, f1.after qd, f2.after qd, hh⟩
        rintro ⟨dsl, lsl⟩ w21 ⟨done, left, F, G, od, ol, f1, f2, hh⟩
        dsimp only at od ol ⊢
        rw [Int.toNat_natCast] at hup
        obtain ⟨S', hlen⟩ := S.serve hn (fun k hk => by rw [hnl k hk]; exact ht) hok (by rw [hnk]; exact hup) (by rw [hnk]; exact hh)
        have O21 := Objs_n0 O f2
        have ot21 := ot.keepQ f2.q
        have og21 := og.keepQ f2.q
        have hdsl : dsl.len = done.length := (od.rd ci1 (by decide)).len
        have hlsl : lsl.len = left.length := (ol.rd wt_len (by decide)).len
        have hwsl : wsl.len = ws.length := (ow.rd wt_len (by decide)).len
        have hFgd : ∀ b, Fg b → ¬ F b := fun b e1 e2 => by
          have := (f1.b b e2).1
          have := O.sep.lt 2 b (by unfold four; simpa using e1)
          omega
        refine ⟨fun c w' => 0 ≤ c.2 ∧ c.2 ≤ done.length ∧ ∃ (Fg : Nat → Prop), OwnF w' F 3 1 dsl (done.flatMap ci) ∧ OwnF w' G 34 4 lsl (left.flatMap wt) ∧ OwnF w' Ft 34 4 tsl (tk.flatMap wt) ∧ OwnF w' Fg 41 3 c.1 ((gn ++ (done.take c.2.toNat).map fun e => (e, n, (tn : Int))).flatMap gt) ∧ Objs W w' (four G Ft Fg fun _ => False) ∧
          (∀ b, Fg b → ¬ F b) ∧ (∀ b, F b → b < w'.heap.size), fun c _ => ((done.length : Int) - c.2).toNat, ⟨Int.le_refl _, by (try dsimp only); omega, Fg, od, ol, ot21, by simpa using og21, O21, hFgd, fun b e => (f1.b b e).2⟩, ?_⟩
        clear og21 O21 hFgd ot21 od ol
        rintro ⟨gsl', k⟩ w22 ⟨k0, k1, Fg', od, ol, ot', og', O', hdj, hFl⟩
        dsimp only at k0 k1 og' ⊢
        have hgl : gsl'.len ≤ 600 := by
          have h1 := (og'.rd gt_len (by decide)).len
          rw [List.length_append, List.length_map, List.length_take] at h1
          omega
        refine ⟨fun hk => ?_, fun hk => ?_⟩
        · have hkl : k < done.length := by have := of_decide_eq_true hk; omega
          obtain ⟨ev, hev⟩ := getq k0 hkl
          refine (od.rd ci1 (by decide)).ixx k0 hev fun p hp _ => hp.ld0 rfl (OwnF.push (news := gt (ev, n, (tn : Int))) apG og' rfl rfl (by unfold maxLen; omega) (by omega) fun r w24 F2 o24 _ st24 => ?_)
          have hd4 := O'.dj4
          rw [w64 (by omega) (by omega)]
          refine ⟨⟨by (try dsimp only); omega, by (try dsimp only); omega, F2, od.keep st24.only fun b e1 e2 => hdj b e2 e1, ol.keep st24.only hd4.2.1, ot'.keep st24.only hd4.2.2.1, ?_, O'.t2 st24, st24.dj hFl hdj, fun b e => Nat.lt_of_lt_of_le (hFl b e) st24.only.size⟩, by (try dsimp only); omega⟩
          (try dsimp only)
          rw [toNat_succ k0, take_next hev, List.map_append, ← List.append_assoc, List.flatMap_append (xs := gn ++ _)]
          simpa [gt] using o24
        · rw [List.take_of_length_le (by have := of_decide_eq_false hk; omega)] at og'
          refine ⟨fun gl => absurd ?_ (nd gl), fun _ => ?_⟩
          · rw [w64 (by omega) (by omega)]
            omega
          · rw [w64 (by omega) (by omega)]
            exact ⟨⟨by (try dsimp only); omega, by (try dsimp only); omega, left, _, G, Fg', ol, ot', og', O', S'⟩, by (try dsimp only); omega⟩
      · have hn2 : n = 2 := by have := of_decide_eq_false hn2; omega
        subst hn2
        rw [w64 (by omega) (by omega)]
        refine ⟨⟨by (try dsimp only); omega, by (try dsimp only); omega, ws, tk, gn, Fw, Ft, Fg, ow, ot, og, O, ?_⟩, by (try dsimp only); omega⟩
        (try dsimp only)
        rw [show ((tn : Int) + 1).toNat = tn + 1 by omega]
        refine ⟨S.i0.le (by omega), fun n hn => ?_, S.tn, by have := S.ln; omega⟩
        have := S.i1 n hn
        rw [if_pos (by omega)] at this
        exact this
  · have htn : tn = one.length := by have := of_decide_eq_false ht; omega
    subst htn
    have qW : Quiet W w9 := Quiet.ofBelow O9.bl
    have q0 := q0W.tr qW
    have hwl := S9.wl
    have htl := S9.ln
    have l1 : wsl.len = ws.length := (ow.rd wt_len (by decide)).len
    have l2 : tsl.len = tk.length := (ot.rd wt_len (by decide)).len
    have l3 : gsl.len = gn.length := (og.rd gt_len (by decide)).len
    have hlen := S9.i0.len
    refine ⟨fun gl => absurd ?_ (nd gl), fun _ => ?_⟩
    · rw [w64 (by omega) (by omega)]
      omega
    have hT := ot.rd wt_len (by decide)
    have hG := og.rd gt_len (by decide)
    refine ⟨fun i w' => 0 ≤ i ∧ i ≤ tk.length ∧ Quiet w9 w', fun i _ => ((tk.length : Int) - i).toNat, ⟨by omega, by omega, Only.refl _ _⟩, ?_⟩
    rintro i w25 ⟨i0, i1, q25⟩
    refine ⟨fun hi => ?_, fun hi => ⟨rfl, q0.tr q25⟩⟩
    have hlt : i < tk.length := by have := of_decide_eq_true hi; omega
    obtain ⟨x, hx⟩ := getq i0 hlt
    have hxm := List.mem_of_getElem? hx
    have hn := S9.tn x hxm
    obtain ⟨hty1, hty2⟩ := hty x.net hn
    obtain ⟨hu1, hu2, hu3⟩ := hus x.net hn
    refine jn.mk (fun _ w' => Quiet w9 w') ?_ ?_
    · refine (hT.keepQ q25).ixx i0 hx fun p hp _ => wt_ld hp (wt_box (x := x) fun bb w28 hbb q28 _ _ => ?_)
      have q928 := q25.tr q28
      refine jn.mk (fun c w' => (c = false → x.due ≤ one.length ∧ CheckA (pr x.net).1 = 0 ∧ Alw (us x.net).2 (pr x.net).1.window (pr x.net).1.down) ∧ Quiet w28 w') ?_ ?_
      · show Go.Dec.tk _ _
        unfold Go.Dec.tk
        have qd : Quiet w28 w28.drew := Only.drew _ _
        have A := (hbb.keepQ qd).at
        have q9d := q928.tr qd
        refine A.ld (j := 3) rfl ⟨fun _ => ⟨fun e => (by cases e), qd⟩, fun gd => A.ld (j := 1) rfl ((hlinks.keepQ (qW.tr q9d)).ixx (by omega) (hpr _ hn) fun p2 hat2 _ => pf_ld hat2 (A.ld (j := 1) rfl ((hups.keepQ (qW.tr q9d)).ixx (by omega) hu1 fun p3 hat3 _ => hat3.ld0 rfl ((allowed_c _ (pr x.net).1 (pr x.net).2 (us x.net).1 (us x.net).2 (hty1.keepQ (q0.tr q9d)) hty2 (hu2.keepQ (q0.tr q9d)) (by omega)).use ?_))))⟩
        rintro r w30 ⟨hr, q30⟩
        have A' := (hbb.keepQ (qd.tr q30)).at
        refine ⟨A'.cj (j := 1) rfl, A'.cj (j := 1) rfl, A'.cj (j := 3) rfl, fun e => ?_, qd.tr q30⟩
        have := hr (by simpa using e)
        exact ⟨by have := of_decide_eq_false gd; omega, this.1, this.2⟩
      rintro c w31 ⟨hc, q31⟩
      have q931 := q928.tr q31
      refine ⟨fun _ => q931, fun g => ?_⟩
      obtain ⟨hdue, hchk, halw⟩ := hc g
      have A := (hbb.keepQ q31).at
      refine A.ld (j := 0) rfl (A.ld (j := 1) rfl ((when_c w31 gsl gn x.ev x.net (hG.keepQ q931) (by omega)).use ?_))
      rintro r w32 ⟨rfl, rfl⟩
      have I := S9.i1 x.net hn
      have hul : (nk x.net).u.length = one.length := hnl _ hn
      have okn : (nk x.net).ok := by rw [hnk]; exact hchk
      have aln : Alw (nk x.net).u (nk x.net).win (nk x.net).down := by rw [hnk]; exact halw
      have hb := I.bd okn aln
      rw [← hul] at hb
      have := (I.tk okn aln).done hb S9.i0.qw.pos (hok _ okn).1 x hxm rfl (by rw [hul]; exact hdue)
      refine jp_or (v := decide (x.due ≤ whn gn x.ev x.net)) (fun _ J hJ => A.ld (j := 3) rfl hJ) ⟨fun e => ?_, fun _ => q931⟩
      rw [decide_eq_false (show ¬ whn gn x.ev x.net < 0 by omega), decide_eq_false (show ¬ x.due ≤ whn gn x.ev x.net by omega)] at e
      cases e
    rintro _ w26 q26
    rw [w64 (by omega) (by omega)]
    exact ⟨⟨by omega, by omega, q26⟩, by (try dsimp only); omega⟩
theorem carried (W : World) (x : Pf) (tx : List ByteArray) (hx : Rd W cb 1 x.types tx) (hcx : x.types.len ≤ x.types.cap) (y : Pf) (ty : List ByteArray) (hy : Rd W cb 1 y.types ty) (hcy : y.types.len ≤ y.types.cap)
    (s : Sl) (l : List Wt) (hl : Rd W wt 4 s l) (_ : ∀ ad, s.a = some ad → 0 < l.length → ad.block < W.heap.size) (_ : l.length ≤ maxLen) (t : Sl) (m : List Int) (hm : Rd W cu 1 t m) (_ : ∀ ad, t.a = some ad → 0 < m.length → ad.block < W.heap.size) (_ : m.length ≤ maxLen)
    (u : Sl) (one : List Bool) (hu : Rd W cbo 1 u one) (_ : ∀ ad, u.a = some ad → 0 < one.length → ad.block < W.heap.size) (_ : one.length ≤ maxLen) (v : Sl) (two : List Bool) (hv : Rd W cbo 1 v two) (_ : ∀ ad, v.a = some ad → 0 < two.length → ad.block < W.heap.size) (_ : two.length ≤ maxLen) :
    callC Try.prog 3 #[pfv x, pfv y, s.v, t.v, u.v, v.v] (fun (r : Bool) => .bool r) W fun r w' => r = true ∧ Below W.heap.size W w' :=
  (carried_c W (apOf x tx) (apOf y ty) x.types y.types s t u v l m one two hx hcx hy hcy hl hm hu hv).use fun _ _ h => ⟨h.1, bq h.2⟩
end Go.Proofs.Ytgbhghoppjfofaa
