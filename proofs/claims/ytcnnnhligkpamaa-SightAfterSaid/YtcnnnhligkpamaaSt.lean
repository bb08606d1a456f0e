import Derived.Test.YtcnnnhligkpamaaSs
namespace Go.Proofs.Ytcnnnhligkpamaa
open Go.Dec Go.RowKit
set_option maxHeartbeats 400000

theorem ints_c (w : World) (s t : Sl) (a b : List Int) (ha : Rd w ci 1 s a) (hb : Rd w ci 1 t b) (hl : a.length ≤ 1000000) :
    callC Try.prog 13 #[s.v, t.v] (fun (r : Bool) => .bool r) w fun r w' => r = decide (a = b) ∧ Quiet w w' := by
  have hsl := ha.len
  have htl := hb.len
  refine D13 _ _ w _ ?_
  unfold F13
  refine ⟨fun hc => ?_, fun hc => ?_⟩
  · have : a ≠ b := fun e => by simp [hsl, htl, e] at hc
    simp [this, Only.refl]
  have hlen : a.length = b.length := by rw [hsl, htl] at hc; simp at hc; omega
  refine ⟨fun i w' => 0 ≤ i ∧ i ≤ a.length ∧ a.take i.toNat = b.take i.toNat ∧ Quiet w w', fun i _ => (a.length - i).toNat, ⟨by omega, by omega, by simp, Only.refl _ _⟩, ?_⟩
  rintro i w1 ⟨i0, i1, he, q1⟩
  refine ⟨fun hi => ?_, fun hi => ?_⟩
  · have hlt : i < a.length := by simpa [hsl] using hi
    obtain ⟨x, hx⟩ := getq i0 hlt
    obtain ⟨y, hy⟩ := getq (l := b) i0 (by omega)
    refine jn.mk (fun c w' => c = !decide (x = y) ∧ Quiet w w') ?_ ?_
    · show tk w1 _
      unfold tk
      have q2 : Quiet w w1.drew := q1.tr (Only.drew _ _)
      exact (ha.keepQ q2).ixx i0 hx fun p hat _ => hat.ld0 rfl ((hb.keepQ q2).ixx i0 hy fun p' hat' _ => hat'.ld0 rfl ⟨rfl, q2⟩)
    · rintro c w3 ⟨rfl, q3⟩
      refine ⟨fun hc => ?_, fun hc => ?_⟩
      · have hne : x ≠ y := by simpa using hc
        have : a ≠ b := fun e => by rw [e, hy] at hx; injection hx with hx; exact hne hx.symm
        simp [this, q3]
      · have heq : x = y := by simpa using hc
        rw [w64 (by omega) (by omega)]
        refine ⟨⟨by omega, by omega, ?_, q3⟩, by (try dsimp only); omega⟩
        rw [toNat_succ i0, take_next hx, take_next hy, he, heq]
  · have hge : a.length ≤ i.toNat := by simp [hsl] at hi; omega
    rw [List.take_of_length_le hge, List.take_of_length_le (by omega)] at he
    simp [he, q1]

theorem ToP_at {nets : List Pf} {l : List Ev} {n id : Int} {e : Ev} (h0 : 0 ≤ id) (h : l[id.toNat]? = some e) :
    ToP nets l n id = (e.author :: (S l).map Sy.acc).any fun a => decide (0 ≤ netP a ∧ netP a = n) && seesP nets l a id := by
  unfold ToP
  rw [h]
  dsimp only
  rw [decide_eq_true h0, Bool.true_and]
theorem ToP_no {nets : List Pf} {l : List Ev} {n id : Int} (h : id < 0 ∨ l.length ≤ id) : ToP nets l n id = false := by
  unfold ToP
  cases he : l[id.toNat]? with
  | none => rfl
  | some e =>
    have := (List.getElem?_eq_some_iff.1 he).1
    dsimp only
    rw [decide_eq_false (by omega), Bool.false_and]

theorem clo27_c (w : World) (x : Int) (b1 b2 b3 b4 b14 : Nat) (s t v : Sl) (nets : List Pf) (l : List Ev) (n id : Int) (e : Ev) (H : Seen w b1 b2 b3 b4 s t nets l n id) (hb14 : Blk w b14 37 #[Sl.v v]) (hv : Rd w sy 4 v (S l)) (hn : nets.length ≤ 1000000) (hl : l.length ≤ 1000000) (hc : t.len ≤ t.cap) (h0 : 0 ≤ id) (h1 : l[id.toNat]? = some e) :
    callC Try.prog 27 #[.int .i64 x, .pointer (some ⟨b3, 0, none⟩), .pointer (some ⟨b1, 0, none⟩), .pointer (some ⟨b2, 0, none⟩), .pointer (some ⟨b14, 0, none⟩), .pointer (some ⟨b4, 0, none⟩)] (fun (r : Bool) => .bool r) w
      fun r w' => r = (decide (0 ≤ netP x ∧ netP x = n) && seesP nets l x id) ∧ Quiet w w' := by
  refine D27 _ _ _ _ _ _ w _ ?_
  unfold F27
  refine jn.mk (fun r w' => r = (decide (0 ≤ netP x ∧ netP x = n) && seesP nets l x id) ∧ Quiet w w') ?_ fun r w' h => h
  show tk w _
  unfold tk
  have qd : Quiet w w.drew := Only.drew _ _
  have H := H.keepQ qd
  have hb14 := hb14.keepQ qd
  have hv := hv.keepQ qd
  generalize w.drew = w1 at *
  refine (net_c w1 x).use ?_
  rintro r3 w2 ⟨rfl, rfl⟩
  refine ⟨fun g => H.a.ld0 (x := n) rfl ((net_c w1 x).use ?_), fun g => ⟨?_, qd⟩⟩
  · rintro r6 w3 ⟨rfl, rfl⟩
    have c3 := H.a.ld0' (o := 0) (i := 0) rfl
    rw [add_zero'] at c3
    refine ⟨c3, fun g2 => H.n.ld0 (x := s) rfl (H.e.ld0 (x := t) rfl (hb14.ld0 (x := v) rfl (H.i.ld0 (x := id) rfl ((sees_c w1 s t v nets l x id e H.hn H.he hv hn hl hc h0 h1).use ?_)))), fun g2 => ⟨?_, qd⟩⟩
    · rintro r w4 ⟨rfl, q4⟩
      have c3 := (H.keepQ q4).a.ld0' (o := 0) (i := 0) rfl
      rw [add_zero'] at c3
      exact ⟨c3, by rw [decide_eq_true ⟨of_decide_eq_true g, of_decide_eq_true g2⟩, Bool.true_and], qd.tr q4⟩
    · rw [decide_eq_false fun c => of_decide_eq_false g2 c.2, Bool.false_and]
  · rw [decide_eq_false fun c => of_decide_eq_false g c.1, Bool.false_and]

theorem To_c (w : World) (s t : Sl) (nets : List Pf) (l : List Ev) (n id : Int) (hs : Rd w pf 22 s nets) (h : Rd w ev 12 t l) (hn : nets.length ≤ 1000000) (hl : l.length ≤ 100000) (hc : t.len ≤ t.cap) :
    callC Try.prog 11 #[s.v, t.v, .int .i64 n, .int .i64 id] (fun (r : Bool) => .bool r) w fun r w' => r = ToP nets l n id ∧ Quiet w w' := by
  have htl := h.len
  have hSl := S_len l
  refine D11 _ _ _ _ w _ ?_
  unfold F11
  refine nwL fun b1 w1 hb1 q1 _ _ _ => nwL fun b2 w2 hb2 q2 _ _ _ => nwL fun b3 w3 hb3 q3 _ _ _ => nwL fun b4 w4 hb4 q4 _ _ _ => ?_
  have q := (q1.tr q2).tr (q3.tr q4)
  have H : Seen w4 b1 b2 b3 b4 s t nets l n id := ⟨hb1.keepQ (q2.tr (q3.tr q4)), hb2.keepQ (q3.tr q4), hb3.keepQ q4, hb4, hs.keepQ q, h.keepQ q⟩
  refine H.i.ld0 (x := id) rfl (jp.val (decide (id < 0 ∨ l.length ≤ id)) ⟨fun g => ?_, fun g => H.i.ld0 (x := id) rfl (H.e.ld0 (x := t) rfl ?_)⟩ ⟨fun g => ⟨?_, q⟩, fun g => ?_⟩)
  · exact (decide_eq_true (.inl (of_decide_eq_true g))).symm
  · have := of_decide_eq_false g
    show decide _ = decide _
    rw [decide_eq_decide, htl]
    exact ⟨.inr, fun e => e.elim (fun e => absurd e this) fun e => e⟩
  · rw [ToP_no (of_decide_eq_true g)]
  have g := of_decide_eq_false g
  obtain ⟨e, he⟩ := getq (l := l) (i := id) (by omega) (by omega)
  rw [ToP_at (by omega) he]
  refine H.e.ld0 (x := t) rfl ((stays_c w4 t l H.he (by omega)).use ?_)
  rintro r13 w5 ⟨F, o, f⟩
  refine box_all rfl fun b14 w7 hb14 q7 _ _ => ?_
  have q57 := f.q.tr q7
  have H7 := H.keepQ q57
  have hst := (o.keepQ q7).rd sy_len (by decide)
  have hstl := hst.len
  refine H7.e.ld0 (x := t) rfl (H7.i.ld0 (x := id) rfl (H7.he.ixx (by omega) he fun p hat _ => hat.ld (j := 0) rfl (nwL fun b20 w8 hb20 q8 g8 _ l8 => ?_)))
  have o8 := own_row (n := 1) (sz := 1) hb20 rfl (by unfold maxLen; omega)
  have f8 : Fresh w7 w8 (fun x => x = b20) := ⟨q8, fun x hx => by subst hx; exact ⟨g8, l8⟩⟩
  refine (hb14.keepQ q8).ld0 (x := r13) rfl ?_
  refine ⟨fun (c : Sl × Int) w' => 0 ≤ c.2 ∧ c.2 ≤ (S l).length ∧ ∃ G, OwnF w' G 3 1 c.1 ((e.author :: ((S l).take c.2.toNat).map Sy.acc).flatMap ci) ∧ Fresh w7 w' G, fun c _ => ((S l).length - c.2).toNat, ⟨by simp, by simp, _, o8, f8⟩, ?_⟩
  rintro ⟨acc, i⟩ w9 ⟨i0, i1, G, oG, fG⟩
  dsimp only at i0 i1 oG ⊢
  have hGr := oG.rd ci1 (by decide)
  have hGl := hGr.len
  rw [List.length_cons, List.length_map, List.length_take] at hGl
  refine ⟨fun hi => ?_, fun hi => ?_⟩
  · have hlt : i < (S l).length := by rw [hstl] at hi; exact of_decide_eq_true hi
    obtain ⟨x, hx⟩ := getq i0 hlt
    refine (hst.keepQ fG.q).ixx i0 hx fun p hat _ => sy_ld hat (sy_box fun b29 w11 hb29 q11 _ _ => hb29.at.ld (j := 0) rfl ?_)
    refine OwnF.push (news := ci x.acc) ap28 (oG.keepQ q11) rfl rfl (by unfold maxLen; omega) (by omega) fun r w13 G' oG' _ st13 => ?_
    rw [w64 (by omega) (by omega)]
    refine ⟨⟨by (try dsimp only); omega, by (try dsimp only); omega, G', ?_, (fG.keep q11).stp st13⟩, by (try dsimp only); omega⟩
    show OwnF w13 G' 3 1 r ((e.author :: ((S l).take (i + 1).toNat).map Sy.acc).flatMap ci)
    rw [toNat_succ i0, take_next hx]
    simpa using oG'
  · have hge : (S l).length ≤ i.toNat := by have := of_decide_eq_false hi; omega
    rw [List.take_of_length_le hge] at hGr
    have H9 := H7.keepQ fG.q
    have hb9 := hb14.keepQ fG.q
    have hst9 := hst.keepQ fG.q
    refine (anyI w9 acc _ _ (fun a => decide (0 ≤ netP a ∧ netP a = n) && seesP nets l a id) hGr (by simp; omega) fun w' y K q' _ hK => ?_).use ?_
    · exact cv_mk Try.func27 NN_27 NB_27 rfl ((clo27_c w' y b1 b2 b3 b4 b14 s t r13 nets l n id e (H9.keepQ q') (hb9.keepQ q') (hst9.keepQ q') hn (by omega) hc (by omega) he).use fun r w'' ⟨e, q''⟩ => e ▸ hK w'' q'')
    · rintro r w14 ⟨rfl, q14⟩
      exact ⟨rfl, (q.tr q57).tr (fG.q.tr q14)⟩
theorem rTo_c (w : World) (s t : Sl) (nets : List Pf) (l : List Ev) (n id : Int) (hs : Rd w pf 22 s nets) (h : Rd w ev 12 t l) (hn : nets.length ≤ 1000000) (hl : l.length ≤ 100000) (hc : t.len ≤ t.cap) :
    callC Try.prog 12 #[s.v, t.v, .int .i64 n, .int .i64 id] (fun (r : Bool) => .bool r) w fun r w' => r = ToP nets l n id ∧ Quiet w w' := by
  have htl := h.len
  have hSl := S_len l
  refine D12 _ _ _ _ w _ ?_
  unfold F12
  refine ⟨fun g => ⟨?_, Only.refl _ _⟩, fun g => ?_⟩
  · have g : n < 0 ∨ id < 0 ∨ l.length ≤ id := by rw [htl] at g; simp at g; omega
    by_cases g2 : id < 0 ∨ l.length ≤ id
    · rw [ToP_no g2]
    · obtain ⟨e, he⟩ := getq (l := l) (i := id) (by omega) (by omega)
      rw [ToP_at (by omega) he]
      refine (List.any_eq_false.2 fun a _ => ?_).symm
      have : ¬ (0 ≤ netP a ∧ netP a = n) := by omega
      simp [this]
  have g' : 0 ≤ n ∧ 0 ≤ id ∧ id < l.length := by rw [htl] at g; simp at g; omega
  obtain ⟨e, he⟩ := getq g'.2.1 g'.2.2
  rw [ToP_at g'.2.1 he, List.any_cons]
  refine h.ixx g'.2.1 he fun p hat _ => hat.ld (j := 0) rfl ((rnet_c w e.author).use ?_)
  rintro r8 w1 ⟨rfl, rfl⟩
  refine ⟨fun g2 => ⟨?_, Only.refl _ _⟩, fun g2 => ?_⟩
  · have g2 := of_decide_eq_true g2
    have : seesP nets l e.author id = true := by
      unfold seesP
      rw [he]
      simp
    rw [decide_eq_true ⟨by omega, g2⟩, this]
    rfl
  rw [decide_eq_false fun c => of_decide_eq_false g2 c.2, Bool.false_and, Bool.false_or]
  refine (rstays_c w t l h (by omega) hc).use ?_
  rintro r10 w2 ⟨F, o, f⟩
  have hr := o.rd sy_len (by decide)
  have hrl := hr.len
  refine ⟨fun i w' => 0 ≤ i ∧ i ≤ (S l).length ∧ (((S l).take i.toNat).map Sy.acc).any (fun a => decide (0 ≤ netP a ∧ netP a = n) && seesP nets l a id) = false ∧ Quiet w2 w', fun i _ => ((S l).length - i).toNat, ⟨by omega, by omega, by simp, Only.refl _ _⟩, ?_⟩
  rintro i w3 ⟨i0, i1, hno, q3⟩
  refine ⟨fun hi => ?_, fun hi => ⟨?_, f.q.tr q3⟩⟩
  · have hlt : i < (S l).length := by rw [hrl] at hi; exact of_decide_eq_true hi
    obtain ⟨x, hx⟩ := getq i0 hlt
    refine (hr.keepQ q3).ixx i0 hx fun p hat _ => hat.ld (j := 0) rfl ((rnet_c w3 x.acc).use ?_)
    rintro r15 w4 ⟨rfl, rfl⟩
    refine jn.mk (fun b w' => b = (decide (0 ≤ netP x.acc ∧ netP x.acc = n) && seesP nets l x.acc id) ∧ Quiet w2 w') ⟨fun g3 => (hr.keepQ q3).ixx i0 hx fun p hat _ => hat.ld (j := 0) rfl ((rSees_c w3 s t nets l x.acc id (hs.keepQ (f.q.tr q3)) (h.keepQ (f.q.tr q3)) hn (by omega) hc).use ?_), fun g3 => ⟨?_, q3⟩⟩ ?_
    · rintro r w5 ⟨rfl, q5⟩
      have g3 := of_decide_eq_true g3
      refine ⟨?_, q3.tr q5⟩
      unfold SeesP
      rw [decide_eq_true ⟨by omega, g'.2⟩, decide_eq_true ⟨by omega, g3⟩]
    · rw [decide_eq_false fun c => of_decide_eq_false g3 c.2, Bool.false_and]
    · rintro b w6 ⟨rfl, q6⟩
      refine ⟨fun hb => ⟨?_, f.q.tr q6⟩, fun hb => ?_⟩
      · rw [List.any_eq_true.2 ⟨x.acc, List.mem_map.2 ⟨x, List.mem_of_getElem? hx, rfl⟩, hb⟩]
      · rw [w64 (by omega) (by omega)]
        refine ⟨⟨by omega, by omega, ?_, q6⟩, by (try dsimp only); omega⟩
        rw [toNat_succ i0, take_next hx, List.map_append, List.any_append, hno, Bool.false_or]
        simp only [List.map_cons, List.map_nil, List.any_cons, List.any_nil, Bool.or_false, hb]
  · have hge : (S l).length ≤ i.toNat := by have := of_decide_eq_false hi; omega
    rw [List.take_of_length_le hge] at hno
    exact hno.symm

def allN (nets : List Pf) (l : List Ev) (a : Int) (n : Nat) : List Int := ((List.range n).filter fun i : Nat => SeesP nets l a (i : Int)).map fun i : Nat => (i : Int)
theorem allN_succ (nets : List Pf) (l : List Ev) (a : Int) (n : Nat) : allN nets l a (n + 1) = allN nets l a n ++ (if SeesP nets l a (n : Int) = true then [(n : Int)] else []) := by
  unfold allN
  rw [List.range_succ, List.filter_append, List.map_append]
  congr 1
  by_cases h : SeesP nets l a (n : Int) = true <;> simp [h]
theorem allN_len (nets : List Pf) (l : List Ev) (a : Int) (n : Nat) : (allN nets l a n).length ≤ n := by
  unfold allN
  rw [List.length_map]
  have := List.length_filter_le (fun i : Nat => SeesP nets l a (i : Int)) (List.range n)
  rwa [List.length_range] at this
theorem All_c (w : World) (s t : Sl) (nets : List Pf) (l : List Ev) (a : Int) (hs : Rd w pf 22 s nets) (h : Rd w ev 12 t l) (hn : nets.length ≤ 1000000) (hl : l.length ≤ 100000) (hc : t.len ≤ t.cap) :
    callC Try.prog 14 #[s.v, t.v, .int .i64 a] Sl.v w fun r w' => ∃ F, OwnF w' F 3 1 r ((AllP nets l a).flatMap ci) ∧ Fresh w w' F := by
  have htl := h.len
  refine D14 _ _ _ w _ ?_
  unfold F14
  refine (net_c w a).use ?_
  rintro r1 w1 ⟨rfl, rfl⟩
  refine ⟨fun g => ⟨_, ?_, Fresh.none w⟩, fun g => ?_⟩
  · have : AllP nets l a = [] := by
      unfold AllP
      rw [List.map_eq_nil_iff, List.filter_eq_nil_iff]
      intro i _
      unfold SeesP
      have := of_decide_eq_true g
      rw [decide_eq_false (by omega)]
      simp
    rw [this]
    exact OwnF.nil _ _ _ _
  have hnet : 0 ≤ netP a := by have := of_decide_eq_false g; omega
  refine (stays_c w t l h (by omega)).use ?_
  rintro r3 w2 ⟨F, o, f⟩
  have hst := o.rd sy_len (by decide)
  refine ⟨fun (c : Sl × Int) w' => 0 ≤ c.2 ∧ c.2 ≤ l.length ∧ ∃ G, OwnF w' G 3 1 c.1 ((allN nets l a c.2.toNat).flatMap ci) ∧ Fresh w2 w' G, fun c _ => (l.length - c.2).toNat, ⟨by simp, by simp, _, by simpa [allN] using OwnF.nil _ _ _ _, Fresh.none _⟩, ?_⟩
  rintro ⟨out, i⟩ w3 ⟨i0, i1, G, oG, fG⟩
  dsimp only at i0 i1 oG ⊢
  have hol := (oG.rd ci1 (by decide)).len
  have hal := allN_len nets l a i.toNat
  refine ⟨fun hi => ?_, fun hi => ?_⟩
  · have hlt : i < l.length := by rw [htl] at hi; exact of_decide_eq_true hi
    obtain ⟨e, he⟩ := getq i0 hlt
    refine jn.mk (fun r w' => ∃ G, OwnF w' G 3 1 r ((allN nets l a (i.toNat + 1)).flatMap ci) ∧ Fresh w2 w' G) ?_ ?_
    · refine (sees_c w3 s t r3 nets l a i e (hs.keepQ (f.q.tr fG.q)) (h.keepQ (f.q.tr fG.q)) (hst.keepQ fG.q) hn (by omega) hc i0 he).use ?_
      rintro r8 w5 ⟨rfl, q5⟩
      have hS : SeesP nets l a ((i.toNat : Nat) : Int) = seesP nets l a i := by
        rw [show ((i.toNat : Nat) : Int) = i by omega]
        unfold SeesP
        rw [decide_eq_true ⟨hnet, i0, hlt⟩, Bool.true_and]
      rw [allN_succ, hS]
      refine ⟨fun g => ?_, fun g => ⟨G, ?_, fG.keep q5⟩⟩
      · refine OwnF.push (news := ci i) ap28 (oG.keepQ q5) rfl rfl (by unfold maxLen; omega) (by omega) fun r w7 G' oG' _ st7 => ⟨G', ?_, (fG.keep q5).stp st7⟩
        rw [if_pos g, show ((i.toNat : Nat) : Int) = i by omega]
        simpa using oG'
      · rw [g]
        simpa using oG.keepQ q5
    · rintro r w4 ⟨G', o', f'⟩
      rw [w64 (by omega) (by omega)]
      refine ⟨⟨by (try dsimp only); omega, by (try dsimp only); omega, G', ?_, f'⟩, by (try dsimp only); omega⟩
      show OwnF w4 G' 3 1 r ((allN nets l a (i + 1).toNat).flatMap ci)
      rw [toNat_succ i0]
      exact o'
  · have : i.toNat = l.length := by have := of_decide_eq_false hi; omega
    rw [this] at oG
    exact ⟨G, oG, ⟨f.q.tr fG.q, fun b hb => by have := fG.b b hb; have := f.q.size; omega⟩⟩
theorem rAll_c (w : World) (s t : Sl) (nets : List Pf) (l : List Ev) (a : Int) (hs : Rd w pf 22 s nets) (h : Rd w ev 12 t l) (hn : nets.length ≤ 1000000) (hl : l.length ≤ 100000) (hc : t.len ≤ t.cap) :
    callC Try.prog 15 #[s.v, t.v, .int .i64 a] Sl.v w fun r w' => ∃ F, OwnF w' F 3 1 r ((AllP nets l a).flatMap ci) ∧ Fresh w w' F := by
  have htl := h.len
  refine D15 _ _ _ w _ ?_
  unfold F15
  refine ⟨fun (c : Sl × Int) w' => 0 ≤ c.2 ∧ c.2 ≤ l.length ∧ ∃ G, OwnF w' G 3 1 c.1 ((allN nets l a c.2.toNat).flatMap ci) ∧ Fresh w w' G, fun c _ => (l.length - c.2).toNat, ⟨by simp, by simp, _, by simpa [allN] using OwnF.nil _ _ _ _, Fresh.none _⟩, ?_⟩
  rintro ⟨out, i⟩ w3 ⟨i0, i1, G, oG, fG⟩
  dsimp only at i0 i1 oG ⊢
  have hol := (oG.rd ci1 (by decide)).len
  have hal := allN_len nets l a i.toNat
  refine ⟨fun hi => ?_, fun hi => ?_⟩
  · have hlt : i < l.length := by rw [htl] at hi; exact of_decide_eq_true hi
    refine jn.mk (fun r w' => ∃ G, OwnF w' G 3 1 r ((allN nets l a (i.toNat + 1)).flatMap ci) ∧ Fresh w w' G) ?_ ?_
    · refine (rSees_c w3 s t nets l a i (hs.keepQ fG.q) (h.keepQ fG.q) hn (by omega) hc).use ?_
      rintro r8 w5 ⟨rfl, q5⟩
      rw [allN_succ, show ((i.toNat : Nat) : Int) = i by omega]
      refine ⟨fun g => ?_, fun g => ⟨G, ?_, fG.keep q5⟩⟩
      · refine OwnF.push (news := ci i) ap28 (oG.keepQ q5) rfl rfl (by unfold maxLen; omega) (by omega) fun r w7 G' oG' _ st7 => ⟨G', ?_, (fG.keep q5).stp st7⟩
        rw [if_pos g]
        simpa using oG'
      · rw [g]
        simpa using oG.keepQ q5
    · rintro r w4 ⟨G', o', f'⟩
      rw [w64 (by omega) (by omega)]
      refine ⟨⟨by (try dsimp only); omega, by (try dsimp only); omega, G', ?_, f'⟩, by (try dsimp only); omega⟩
      show OwnF w4 G' 3 1 r ((allN nets l a (i + 1).toNat).flatMap ci)
      rw [toNat_succ i0]
      exact o'
  · have : i.toNat = l.length := by have := of_decide_eq_false hi; omega
    rw [this] at oG
    exact ⟨G, oG, fG⟩

/-! ### the limits -/
theorem few1_c (w : World) (e : Ev) : callC Try.prog 30 #[evv e] (fun (r : Bool) => .bool r) w fun _ w' => Quiet w w' := by
  refine D30 _ _ _ _ _ _ _ _ _ _ _ _ w _ ?_
  unfold F30
  refine nwL fun b w1 hb q _ _ _ => ?_
  have hb : IsEv w1 b e := hb
  refine hb.at.ld (j := 2) rfl (jp.mk (fun _ => True) ⟨fun _ => hb.at.ld (j := 10) rfl trivial, fun _ => trivial⟩ fun c _ => jp.mk (fun _ => True) ⟨fun _ => hb.at.ld (j := 9) rfl trivial, fun _ => trivial⟩ fun _ _ => q)
theorem fewAll_c (w : World) (t : Sl) (l : List Ev) (n : Int) (h : Rd w ev 12 t l) (hl : l.length ≤ maxLen) (hn : n ≤ 1000000) : callC Try.prog 21 #[t.v, .int .i64 n] (fun (r : Bool) => .bool r) w fun r w' => (r = true → (l.length : Int) ≤ n) ∧ Quiet w w' := by
  have htl := h.len
  refine D21 _ _ w _ ?_
  unfold F21
  refine ⟨fun i w' => 0 ≤ i ∧ i ≤ l.length ∧ Quiet w w', fun i _ => (l.length - i).toNat, ⟨by omega, by omega, Only.refl _ _⟩, ?_⟩
  rintro i w1 ⟨i0, i1, q1⟩
  refine ⟨fun hi => ?_, fun hi => ⟨fun g => by rw [htl] at g; exact of_decide_eq_true g, q1⟩⟩
  rw [Bool.and_eq_true] at hi
  have hlt : i < l.length := by rw [htl] at hi; exact of_decide_eq_true hi.1
  have hin : i ≤ n := of_decide_eq_true hi.2
  obtain ⟨e, he⟩ := getq i0 hlt
  refine (h.keepQ q1).ixx i0 he fun p hat _ => ev_ld hat ((few1_c w1 e).use ?_)
  rintro r w2 q2
  refine ⟨fun _ => ⟨fun g => (by cases g), q1.tr q2⟩, fun _ => ?_⟩
  rw [w64 (by omega) (by omega)]
  exact ⟨⟨by omega, by omega, q1.tr q2⟩, by (try dsimp only); omega⟩
theorem few_c (w : World) (s t : Sl) (nets : List Pf) (l : List Ev) (hs : Rd w pf 22 s nets) (h : Rd w ev 12 t l) (hl : l.length ≤ maxLen) : callC Try.prog 8 #[s.v, t.v, .int .i64 20] (fun (r : Bool) => .bool r) w fun r w' => (r = true → nets.length ≤ 4 ∧ l.length ≤ 20) ∧ Quiet w w' := by
  have hsl := hs.len
  refine D8 _ _ _ w _ ?_
  unfold F8
  refine jn.mk (fun r w' => (r = true → nets.length ≤ 4 ∧ l.length ≤ 20) ∧ Quiet w w') ⟨fun g => ?_, fun g => ⟨fun e => (by cases e), Only.refl _ _⟩⟩ fun r w' h => h
  refine (fewAll_c w t l 20 h hl (by decide)).use ?_
  rintro r w1 ⟨hr, q1⟩
  have := of_decide_eq_true g
  exact ⟨fun e => ⟨by omega, by have := hr e; omega⟩, q1⟩

/-! ### the examples -/
def actP (k who : Int) : Ev := ⟨0, 0, Sl.nil, k, 0, -1, -1, who, 0, ByteArray.mk #[], Sl.nil, 0⟩
def netL (h r : Int) : Pf := ⟨ByteArray.mk #[], 0, 0, 0, false, 0, false, false, 0, 0, 0, 0, Sl.nil, 0, h, r, 0, false, 0, 0, 0, 0⟩
theorem act_c (w : World) (k who : Int) : callC Try.prog 29 #[.int .i64 k, .int .i64 who] (fun (r : Int × Int × Sl × Int × Int × Int × Int × Int × Int × ByteArray × Sl × Int) => (Value.agg #[(Value.int .i64 r.1), (Value.int .i64 r.2.1), (Sl.v r.2.2.1), (Value.int .i64 r.2.2.2.1), (Value.int .i64 r.2.2.2.2.1), (Value.int .i64 r.2.2.2.2.2.1), (Value.int .i64 r.2.2.2.2.2.2.1), (Value.int .i64 r.2.2.2.2.2.2.2.1), (Value.int .i64 r.2.2.2.2.2.2.2.2.1), (Value.string r.2.2.2.2.2.2.2.2.2.1), (Sl.v r.2.2.2.2.2.2.2.2.2.2.1), (Value.int .i64 r.2.2.2.2.2.2.2.2.2.2.2)])) w
    fun r w' => r = evt (actP k who) ∧ Quiet w w' := by
  refine D29 _ _ w _ ?_
  unfold F29
  exact ev_box (x := actP k who) fun b w' hb q _ _ => ev_ld hb.at ⟨rfl, q⟩
theorem net0_c (w : World) (h r : Int) : callC Try.prog 20 #[.int .i64 h, .int .i64 r] (fun (r : ByteArray × Int × Int × Int × Bool × Int × Bool × Bool × Int × Int × Int × Int × Sl × Int × Int × Int × Int × Bool × Int × Int × Int × Int) => (Value.agg #[(Value.string r.1), (Value.int .i64 r.2.1), (Value.int .i64 r.2.2.1), (Value.int .i64 r.2.2.2.1), (Value.bool r.2.2.2.2.1), (Value.int .i64 r.2.2.2.2.2.1), (Value.bool r.2.2.2.2.2.2.1), (Value.bool r.2.2.2.2.2.2.2.1), (Value.int .i64 r.2.2.2.2.2.2.2.2.1), (Value.int .i64 r.2.2.2.2.2.2.2.2.2.1), (Value.int .i64 r.2.2.2.2.2.2.2.2.2.2.1), (Value.int .i64 r.2.2.2.2.2.2.2.2.2.2.2.1), (Sl.v r.2.2.2.2.2.2.2.2.2.2.2.2.1), (Value.int .i64 r.2.2.2.2.2.2.2.2.2.2.2.2.2.1), (Value.int .i64 r.2.2.2.2.2.2.2.2.2.2.2.2.2.2.1), (Value.int .i64 r.2.2.2.2.2.2.2.2.2.2.2.2.2.2.2.1), (Value.int .i64 r.2.2.2.2.2.2.2.2.2.2.2.2.2.2.2.2.1), (Value.bool r.2.2.2.2.2.2.2.2.2.2.2.2.2.2.2.2.2.1), (Value.int .i64 r.2.2.2.2.2.2.2.2.2.2.2.2.2.2.2.2.2.2.1), (Value.int .i64 r.2.2.2.2.2.2.2.2.2.2.2.2.2.2.2.2.2.2.2.1), (Value.int .i64 r.2.2.2.2.2.2.2.2.2.2.2.2.2.2.2.2.2.2.2.2.1), (Value.int .i64 r.2.2.2.2.2.2.2.2.2.2.2.2.2.2.2.2.2.2.2.2.2)])) w
    fun x w' => x = pft (netL h r) ∧ Quiet w w' := by
  refine D20 _ _ w _ ?_
  unfold F20
  exact pf_box (x := netL h r) fun b w' hb q _ _ => pf_ld hb.at ⟨rfl, q⟩
def storyL : List Ev := [actP 5 12, actP 0 (-1), actP 5 1, actP 0 (-1), actP 7 1, actP 0 (-1), actP 8 (-1), actP 0 (-1)]
theorem story_c (w : World) : callC Try.prog 19 #[] Sl.v w fun r w' => Rd w' ev 12 r storyL ∧ r.len ≤ r.cap ∧ Quiet w w' := by
  refine D19 w _ ?_
  unfold F19
  refine (act_c _ _ _).use ?_
  rintro r1 w1 ⟨rfl, q1⟩
  refine (act_c _ _ _).use ?_
  rintro r2 w2 ⟨rfl, q2⟩
  refine (act_c _ _ _).use ?_
  rintro r3 w3 ⟨rfl, q3⟩
  refine (act_c _ _ _).use ?_
  rintro r4 w4 ⟨rfl, q4⟩
  refine (act_c _ _ _).use ?_
  rintro r5 w5 ⟨rfl, q5⟩
  refine (act_c _ _ _).use ?_
  rintro r6 w6 ⟨rfl, q6⟩
  refine (act_c _ _ _).use ?_
  rintro r7 w7 ⟨rfl, q7⟩
  refine (act_c _ _ _).use ?_
  rintro r8 w8 ⟨rfl, q8⟩
  refine nwL fun b w9 hb q9 _ _ _ => ?_
  exact ⟨ev_row (l := storyL) hb rfl rfl, Nat.le_refl 8, ((q1.tr q2).tr (q3.tr q4)).tr (((q5.tr q6).tr (q7.tr q8)).tr q9)⟩
theorem jn_t {W w : World} {c : Bool} {A : (Bool → World → Prop) → Prop} {k : Bool → World → Prop} (hc : c = true) (h : A (fun r w' => r = true ∧ Quiet W w')) (hk : ∀ w', Quiet W w' → k true w') : jn (fun J => cnd c (A J) (J false w)) k :=
  jn.mk _ ⟨fun _ => h, fun e => by rw [hc] at e; cases e⟩ fun r w' ⟨e, q⟩ => e ▸ hk w' q
end Go.Proofs.Ytcnnnhligkpamaa
