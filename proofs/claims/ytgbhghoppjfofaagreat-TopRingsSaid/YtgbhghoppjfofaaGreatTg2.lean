import Derived.Test.YtgbhghoppjfofaaGreatTf
namespace Go.Proofs.YtgbhghoppjfofaaGreat
open Go.Dec Go.RowKit Go.Top
set_option maxHeartbeats 1000000
set_option maxRecDepth 10000

def cints (o : List Nat) : List Value := (o.map fun i : Nat => (i : Int)).flatMap ci
theorem cints_map (o : List Nat) : cints o = o.map fun i : Nat => Value.int .i64 (i : Int) := by
  unfold cints
  induction o with
  | nil => rfl
  | cons x r ih => simp only [List.map_cons, List.flatMap_cons, ih, ci, List.singleton_append]
theorem cints_len (o : List Nat) : (cints o).length = o.length := by rw [cints_map, List.length_map]
theorem sortI_c (w : World) (F : Nat → Prop) (s r : Sl) (o : List Nat) (b : Nat) (rest : List Wt) (ho : OwnF w F 3 1 s (cints o)) (hin : ∀ i ∈ o, i < rest.length) (hl : rest.length ≤ 1000) (hol : o.length ≤ 9000)
    (hm : ∀ w1, Only F w w1 → Blk w1 b 66 #[r.v] ∧ Rd w1 wt 4 r rest) :
    callC Tryz.prog 48 #[s.v, .func (.func 49) #[] (List.toArray [.pointer (some (Addr.mk b 0 none))])] (fun (_ : Unit) => .tuple #[]) w fun _ w' =>
      ∃ o' : List Nat, o'.Perm o ∧ o'.Pairwise (fun i j => keyD rest i ≤ keyD rest j) ∧ OwnF w' F 3 1 s (cints o') ∧ Only F w w' := by
  by_cases he : rest.length = 0
  · have : o = [] := by
      cases o with
      | nil => rfl
      | cons x r => have := hin x (by simp); omega
    subst this
    have hs0 : s.len = 0 := by have := ho.own.len; simpa [cints] using this.symm
    have := Proofs.AnyF.slices_SortFunc_none { Tryz.sortI with } s.a s.cap (.func (.func 49) #[] (List.toArray [.pointer (some (Addr.mk b 0 none))])) w
    have hv : Sl.v s = .slice s.a 0 s.cap := by rw [Sl.v, hs0]
    rw [hv]
    refine Calls.mono this ?_
    rintro e w' ⟨rfl, rfl⟩
    exact ⟨(), rfl, [], .refl _, .nil, ho, Only.refl _ _⟩
  · obtain ⟨m, hmm⟩ : ∃ m, rest.length = m + 1 := ⟨rest.length - 1, by omega⟩
    have hval : ∀ i ∈ o, (Fin.ofNat (m + 1) i).val = i := fun i hi => by
      have := hin i hi
      simp only [Fin.ofNat]
      exact Nat.mod_eq_of_lt (by omega)
    have e1 : cints o = (o.map (Fin.ofNat (m + 1))).map fun i : Fin (m + 1) => Value.int .i64 (i.val : Int) := by
      rw [cints_map, List.map_map]
      refine List.map_congr_left fun i hi => ?_
      simp only [Function.comp, hval i hi]
    rw [e1] at ho
    have := sort1_c Tryz.sortI (enc := fun i : Fin (m + 1) => Value.int .i64 (i.val : Int)) (fun _ => rfl) (swo2 (fun i : Fin (m + 1) => keyD rest i.val) (fun i : Fin (m + 1) => keyE rest i.val)) (g := 49) (cb := List.toArray [.pointer (some (Addr.mk b 0 none))]) (enters_of Tryz.func49 (by kernel_rfl) rfl) ho (by rw [List.length_map]; omega) fun w1 on1 x y => by
      obtain ⟨hb, hr⟩ := hm w1 on1
      refine Calls.mono (step1_c w1 b r rest x.val y.val (by have := x.isLt; omega) (by have := y.isLt; omega) hl hb hr) ?_
      rintro e w' ⟨r, rfl, rfl, hg⟩
      exact ⟨rfl, hg⟩
    refine Calls.mono this ?_
    rintro e w' ⟨rfl, l', h1, h2, h3, h4⟩
    refine ⟨(), rfl, l'.map Fin.val, ?_, ?_, ?_, h4⟩
    · have := h1.map Fin.val
      rw [List.map_map] at this
      have e2 : o.map (Fin.val ∘ Fin.ofNat (m + 1)) = o := by
        conv => rhs; rw [← List.map_id o]
        exact List.map_congr_left fun i hi => by simp only [Function.comp, hval i hi, id]
      rwa [e2] at this
    · rw [List.pairwise_map]
      exact h2.imp fun hh => le2 hh
    · rw [cints_map, List.map_map]
      exact h3
theorem step_c (w : World) (a : Ap) (s t : Sl) (l : List Wt) (net : Int) (up : Bool) (h : Rd w cb 1 s a.types) (hc : s.len ≤ s.cap) (hr : Rd w wt 4 t l) (htc : t.len ≤ t.cap) (hq : QW l) (hl : l.length ≤ 900) :
    callC Tryz.prog 22 #[pfv (pfOf a s), .int .i64 net, t.v, .bool up] (fun (r : Sl × Sl) => .tuple #[r.1.v, r.2.v]) w fun r w' =>
      ∃ (done : List Int) (left : List Wt) (F G : Nat → Prop), OwnF w' F 3 1 r.1 (done.flatMap ci) ∧ OwnF w' G 70 4 r.2 (left.flatMap wt) ∧ Fresh w w' F ∧ Fresh w w' G ∧
        ((up = true ∧ CheckA a = 0 ∧ StepR a.rate net l done left) ∨ (¬ (up = true ∧ CheckA a = 0) ∧ done = [] ∧ left = l)) := by
  refine D22 _ _ _ _ _ _ _ _ _ _ _ _ _ _ _ _ _ _ _ _ _ _ _ _ _ w _ ?_
  unfold F22
  refine nwL fun b1 w1 hb1 q1 _ _ l1 => ?_
  have hP : IsPf w1 b1 (pfOf a s) := hb1
  refine (cloneW_c w1 t l (hr.keepQ q1) (by omega)).use ?_
  rintro r10 w2 ⟨F, o2, f2⟩
  refine box_all (vs := [Sl.v r10]) rfl fun b2 w4 hb2 q4 g4 l4 => ?_
  have q14 := f2.q.tr q4
  have f4 : Fresh w w4 F := (f2.after q1).keep q4
  have hF2 : ¬ F b2 := fun e => by have := (f2.b b2 e).2; omega
  have hF1 : ¬ F b1 := fun e => by have := (f2.b b1 e).1; omega
  refine jn.mk (fun c w' => c = decide (¬ (up = true ∧ CheckA a = 0)) ∧ Quiet w4 w') ⟨fun g => ⟨?_, Only.refl _ _⟩, fun g => pf_ld (hP.keepQ q14).at ((check_c w4 a s (h.keepQ (q1.tr q14)) hc).use ?_)⟩ ?_
  · have : up = false := by simpa using g
    subst this
    simp
  · rintro r w5 ⟨rfl, q5⟩
    have : up = true := by simpa using g
    subst this
    refine ⟨?_, q5⟩
    rw [Bool.eq_iff_iff]
    simp
  rintro c w6 ⟨rfl, q6⟩
  refine jn_or (v := false) (fun _ J hJ => (queue_c w6 t l (hr.keepQ ((q1.tr q14).tr q6)) htc (by omega) hq).use (by
    rintro r w7 ⟨rfl, q7⟩
    exact hJ w7 q7)) fun w8 q8 => ?_
  rw [Bool.or_false]
  have q48 := q6.tr q8
  have f8 := f4.keep q48
  have o8 := o2.keepQ (q4.tr q48)
  have hb8 := hb2.keepQ q48
  have q08 : Quiet w w8 := (q1.tr q14).tr q48
  refine ⟨fun g => ?_, fun g => ?_⟩
  · refine jn.mk (fun r w' => r = (Sl.nil, r10) ∧ Quiet w8 w') ?_ ?_
    · show tk _ _
      unfold tk
      exact (hb8.keepQ (Only.drew _ _)).ld0 rfl ⟨rfl, Only.drew _ _⟩
    · rintro r w10 ⟨rfl, q10⟩
      exact ⟨[], l, fun _ => False, F, OwnF.nil _ _ _ _, o8.keepQ q10, ⟨q08.tr q10, fun _ e => e.elim⟩, f8.keep q10, .inr ⟨of_decide_eq_true g, rfl, rfl⟩⟩
  have hup := Decidable.not_not.1 (of_decide_eq_false g)
  have okA := check_ok hup.2
  refine hb8.ld0 rfl ?_
  have hR8 := o8.rd wt_len (by decide)
  have hRl := hR8.len
  refine ⟨fun c w' => 0 ≤ c.2 ∧ c.2 ≤ l.length ∧ ∃ Fo, OwnF w' Fo 3 1 c.1 (cints (idx net 0 (l.take c.2.toNat))) ∧ Fresh w8 w' Fo, fun c _ => (l.length - c.2).toNat, ⟨Int.le_refl _, by dsimp only; omega, _, OwnF.nil _ (fun _ => False) _ _, Fresh.none w8⟩, ?_⟩
  have hidl : ∀ m : List Wt, ∀ k, (idx net k m).length ≤ m.length := fun m => by
    induction m with
    | nil => intro k; simp [idx]
    | cons y r ih =>
      intro k
      simp only [idx]
      have := ih (k + 1)
      split <;> simp <;> omega
  rintro ⟨os, i⟩ w11 ⟨i0, i1, Fo, o11, f11⟩
  dsimp only at i0 i1 o11 ⊢
  refine ⟨fun hi => ?_, fun hi => ?_⟩
  · have hlt : i < l.length := by have := of_decide_eq_true hi; omega
    obtain ⟨x, hx⟩ := getq i0 hlt
    have hol : os.len ≤ 900 := by
      have h1 := o11.own.len
      have h2 := hidl (l.take i.toNat) 0
      rw [cints_len] at h1
      rw [List.length_take] at h2
      omega
    refine jn.mk (fun r w' => ∃ Fo, OwnF w' Fo 3 1 r (cints (idx net 0 (l.take (i + 1).toNat))) ∧ Fresh w8 w' Fo) ?_ ?_
    · rw [toNat_succ i0, take_next hx, idx_append]
      refine (hR8.keepQ f11.q).ixx i0 hx fun p hat _ => wt_ld hat (wt_box (x := x) fun b w14 hb q14' _ _ => hb.at.ld (j := 1) rfl ⟨fun g => ?_, fun g => ?_⟩)
      · rw [if_pos (of_decide_eq_true g)]
        refine OwnF.push (news := ci i) apI (o11.keepQ q14') rfl rfl (by unfold maxLen; omega) (by omega) fun r w16 F' o16 _ st16 => ⟨F', ?_, (f11.keep q14').stp st16⟩
        have : cints (idx net 0 (l.take i.toNat) ++ [0 + (l.take i.toNat).length]) = cints (idx net 0 (l.take i.toNat)) ++ ci i := by
          unfold cints
          rw [List.map_append, List.flatMap_append, List.map_singleton, List.flatMap_singleton]
          congr 2
          rw [List.length_take]
          omega
        rw [this]
        exact o16
      · rw [if_neg (of_decide_eq_false g), List.append_nil]
        exact ⟨Fo, o11.keepQ q14', f11.keep q14'⟩
    rintro r w12 ⟨F', o12, f12⟩
    rw [w64 (by omega) (by omega)]
    exact ⟨⟨by (try dsimp only); omega, by (try dsimp only); omega, F', o12, f12⟩, by (try dsimp only); omega⟩
  rw [List.take_of_length_le (by have := of_decide_eq_false hi; omega)] at o11
  have hFoF : ∀ b, Fo b → ¬ F b := fun b e1 e2 => by
    have := (f11.b b e1).1
    have := (f8.b b e2).2
    omega
  have hFo2 : ¬ Fo b2 := fun e => by have := (f11.b b2 e).1; have := hb8.lt; omega
  have hFo1 : ¬ Fo b1 := fun e => by have := (f11.b b1 e).1; have := q08.size; have := q1.size; have := (q14.tr q48).size; omega
  have hinI : ∀ i ∈ idx net 0 l, i < l.length := fun i hi => by
    obtain ⟨y, _, h2, _⟩ := idx_mem.1 hi
    rw [Nat.sub_zero] at h2
    exact (List.getElem?_eq_some_iff.1 h2).1
  have o811 := o8.keepQ f11.q
  have hb11 := hb8.keepQ f11.q
  refine (sortI_c w11 Fo os r10 (idx net 0 l) b2 l o11 hinI (by omega) (by have := hidl l 0; omega) fun w1 on1 => ⟨hb11.keep on1 hFo2, (o811.keep on1 fun b e1 e2 => hFoF b e2 e1).rd wt_len (by decide)⟩).use ?_
  rintro _ W ⟨o, hperm, hsort, oo, on17⟩
  have hPW : IsPf W b1 (pfOf a s) := Blk.keep (hP.keepQ ((q14.tr q48).tr f11.q)) on17 hFo1
  refine hPW.at.ld (j := 18) rfl ?_
  have hbW := hb11.keep on17 hFo2
  have oRW := o811.keep on17 fun b e1 e2 => hFoF b e2 e1
  have fo17 : Fresh w8 W Fo := f11.only on17
  have hsW := fo17.q.size
  have hFW : ∀ b, F b → b < W.heap.size := fun b e => by have := (f8.b b e).2; omega
  have hol : os.len = o.length := by
    have := oo.own.len
    rw [cints_len] at this
    omega
  have hin : ∀ i ∈ o, i < l.length := fun i hi => hinI i (hperm.mem_iff.1 hi)
  have holl : o.length ≤ 900 := by
    rw [hperm.length_eq]
    have := hidl l 0
    omega
  refine ⟨fun c w' => 0 ≤ c.2.2 ∧ c.2.2 ≤ o.length ∧ 0 ≤ c.2.1 ∧ c.2.1 ≤ 1073741824 ∧ (∃ (lr : List Wt) (dn : List Int) (Fd : Nat → Prop), lr.length = l.length ∧ (∀ y ∈ lr, 0 ≤ y.left ∧ y.left ≤ 1099511627776) ∧ srv (o.drop c.2.2.toNat) c.2.1 lr dn = srv o a.rate l [] ∧ OwnF w' F 70 4 r10 (lr.flatMap wt) ∧
      OwnF w' Fd 3 1 c.1 (dn.flatMap ci) ∧ (dn.length : Int) ≤ c.2.2 ∧ (∀ b, Fd b → W.heap.size ≤ b ∧ b < w'.heap.size)) ∧ Only F W w', fun c _ => (o.length - c.2.2).toNat,
    ⟨Int.le_refl _, by dsimp only; omega, ?_, ?_, ⟨l, [], fun _ => False, rfl, fun y hy => ?_, rfl, oRW, OwnF.nil _ _ _ _, by simp, fun _ e => e.elim⟩, Only.refl _ _⟩, ?_⟩
  · show 0 ≤ a.rate
    have := okA.rate
    omega
  · exact okA.rate.2
  · have := hq.1 y hy
    unfold rightP at this
    omega
  rintro ⟨ds, pl, k⟩ w18 ⟨k0, k1, p0, p1, ⟨lr, dn, Fd, hlr, hlrr, hsrv, oR, oD, hdl, hFd⟩, on18⟩
  dsimp only at k0 k1 p0 p1 hsrv oD hdl ⊢
  have hb18 := hbW.keep on18 hF2
  have oo18 := oo.keep on18 hFoF
  have hR := oR.rd wt_len (by decide)
  refine ⟨fun hi => ?_, fun hi => ?_⟩
  · have hlt : k < o.length := by have := of_decide_eq_true hi; omega
    obtain ⟨e, he⟩ := getq k0 hlt
    have hel := hin e (List.mem_of_getElem? he)
    have hel' : e < lr.length := by omega
    obtain ⟨x, hx⟩ : ∃ x, lr[e]? = some x := ⟨_, List.getElem?_eq_getElem hel'⟩
    have hxr := hlrr x (List.mem_of_getElem? hx)
    have hdrop : o.drop k.toNat = e :: o.drop (k.toNat + 1) := by
      obtain ⟨hk, rfl⟩ := List.getElem?_eq_some_iff.1 he
      rw [List.getElem_cons_drop]
    rw [hdrop, srv_cons hx] at hsrv
    have hxi : lr[((e : Int)).toNat]? = some x := by simpa using hx
    have hord : Rd w18 ci 1 os (o.map fun i : Nat => (i : Int)) := oo18.rd ci1 (by decide)
    have hdsl : ds.len ≤ 900 := by
      have h1 := (oD.rd ci1 (by decide)).len
      omega
    refine jn.mk (fun r w' => r.2 = pl - min pl x.left ∧ (∃ Fd, OwnF w' F 70 4 r10 ((lr.set e { x with left := x.left - min pl x.left }).flatMap wt) ∧ OwnF w' Fd 3 1 r.1 ((if x.left - min pl x.left = 0 then dn ++ [x.ev] else dn).flatMap ci) ∧ (∀ b, Fd b → W.heap.size ≤ b ∧ b < w'.heap.size)) ∧ Only F W w') ?_ ?_
    · refine hord.ixx k0 (x := (e : Int)) (by rw [List.getElem?_map, he]; rfl) fun p hat _ => hat.ld0 rfl (hb18.ld0 rfl (hR.ixx (by omega) hxi fun p1 h1 _ => h1.ld (j := 2) rfl (hb18.ld0 rfl (hR.ixx (by omega) hxi fun p2 h2 _ => h2.ld (j := 2) rfl ?_))))
      rw [w64 (by omega) (by omega)]
      refine OwnF.setj (y := { x with left := x.left - min pl x.left }) oR wt_len (by omega) hxi rfl (by decide) fun w20 o20 on20 s20 => ?_
      rw [show ((e : Int)).toNat = e from Int.toNat_natCast e] at o20
      have hb20 := hb18.keep on20 hF2
      have hR20 := o20.rd wt_len (by decide)
      have hx20 : (lr.set e { x with left := x.left - min pl x.left })[((e : Int)).toNat]? = some { x with left := x.left - min pl x.left } := by
        rw [show ((e : Int)).toNat = e from Int.toNat_natCast e, List.getElem?_set_self hel']
      have oD20 := oD.keep on20 fun b e1 e2 => by
        have := (hFd b e1).1
        have := hFW b e2
        omega
      refine hb20.ld0 rfl (hR20.ixx (by omega) hx20 fun p3 h3 _ => h3.ld (j := 2) rfl ⟨fun g => ?_, fun g => ?_⟩)
      · refine hb20.ld0 rfl (hR20.ixx (by omega) hx20 fun p4 h4 _ => h4.ld (j := 0) rfl (OwnF.push (news := ci x.ev) apI oD20 rfl rfl (by unfold maxLen; omega) (by omega) fun r w22 F' o22 _ st22 => ⟨w64 (by omega) (by omega), ⟨F', o20.keep st22.only fun b e1 e2 => ?_, ?_, fun b hb => ?_⟩, ?_⟩))
        · have := (hFd b e2).1
          have := hFW b e1
          omega
        · have g' : x.left - min pl x.left = 0 := of_decide_eq_true g
          rw [if_pos g', List.flatMap_append, List.flatMap_singleton]
          exact o22
        · have := st22.only.size
          rcases st22.sub b hb with e1 | e1
          · have := hFd b e1
            omega
          · have := on18.size
            omega
        · refine (on18.then_ on20 fun _ _ e => e).then_ st22.only fun b hb e1 => ?_
          have := (hFd b e1).1
          omega
      · have g' : ¬ x.left - min pl x.left = 0 := of_decide_eq_false g
        rw [if_neg g']
        refine ⟨w64 (by omega) (by omega), ⟨Fd, o20, oD20, fun b hb => ?_⟩, on18.then_ on20 fun _ _ e => e⟩
        have := hFd b hb
        omega
    rintro ⟨ds', pl'⟩ w19 ⟨rfl, ⟨Fd', oR', oD', hFd'⟩, on19⟩
    dsimp only
    rw [w64 (x := k + 1) (by omega) (by omega)]
    refine ⟨⟨by (try dsimp only); omega, by (try dsimp only); omega, by (try dsimp only); omega, by (try dsimp only); omega, ⟨_, _, Fd', by rw [List.length_set]; exact hlr, fun y hy => ?_, ?_, oR', oD', ?_, hFd'⟩, on19⟩, by (try dsimp only); omega⟩
    · rcases List.mem_or_eq_of_mem_set hy with hy | rfl
      · exact hlrr y hy
      · dsimp only
        omega
    · (try dsimp only)
      rw [toNat_succ k0]
      exact hsrv
    · (try dsimp only)
      split
      · rw [List.length_append, List.length_singleton]
        omega
      · omega
  · have hke : k = o.length := by have := of_decide_eq_false hi; omega
    subst hke
    rw [List.drop_of_length_le (by omega)] at hsrv
    refine hb18.ld0 rfl ((delete_c w18 F r10 lr oR (by omega)).use ?_)
    rintro r90 w23 ⟨o23, on23⟩
    have hx : srv o a.rate l [] = (pl, lr, dn) := hsrv.symm
    have q8W := fo17.q
    have on : Only F W w23 := on18.then_ on23 fun _ _ e => e
    have qw23 : Quiet w w23 := (q08.tr q8W).new on fun b e => (f8.b b e).1
    have hszW := on.size
    have hsz0 := (q08.tr q8W).size
    refine ⟨dn, lr.filter keepW, Fd, F, oD.keep on23 fun b e1 e2 => ?_, o23, ⟨qw23, fun b hb => ?_⟩, ⟨qw23, fun b hb => ?_⟩, .inl ⟨hup.1, hup.2, o, hperm, ?_, by rw [hx], by rw [hx]; rfl⟩⟩
    · have := (hFd b e1).1
      have := hFW b e2
      omega
    · have := hFd b hb
      have := on23.size
      omega
    · have := f8.b b hb
      have := hFW b hb
      omega
    · refine hsort.imp fun {i j} hij x y hx hy => ?_
      simpa [keyD, hx, hy] using hij
end Go.Proofs.YtgbhghoppjfofaaGreat
