import Derived.Test.YtmnhehklhelpeaaHb
namespace Go.Proofs.Ytmnhehklhelpeaa
open Go.Dec Go.RowKit
set_option maxHeartbeats 800000
set_option maxRecDepth 10000

/-- what On says, for right shares, or the secret and right shares -/
theorem on_c (w : World) (s : Sl) (l : List Pt) (k : Int) (h : Rd w pt 2 s l) (hsc : s.len ≤ s.cap) (hl : l.length ≤ 1000) (ho : ∀ p ∈ l, Okp p) (hd : (l.map Pt.x).Nodup) (hk : 0 ≤ k ∧ k ≤ 1000) :
    callC Try.prog 41 #[s.v, .int .i64 k] (fun (r : Int × Bool) => .tuple #[.int .i64 r.1, .bool r.2]) w fun r w' => (r.2 = true ↔ AgreeP l k.toNat) ∧ (r.2 = true → Fld r.1 ∧ cg r.1 (lag (l.take k.toNat) 0)) ∧ (r.2 = false → r.1 = 0) ∧ Quiet w w' := by
  have hsl := h.len
  refine D41 _ _ w _ ?_
  unfold F41
  have hmin : (min k (s.len : Int)).toNat = min k.toNat l.length := by omega
  have htk : l.take (min k (s.len : Int)).toNat = l.take k.toNat := by
    rw [hmin]
    by_cases e : k.toNat ≤ l.length
    · rw [show min k.toNat l.length = k.toNat by omega]
    · rw [List.take_of_length_le (by omega), List.take_of_length_le (by omega)]
  refine rn_upto apS h hsc (by omega) (by omega) fun r9 h9 c9 _ => ?_
  rw [htk] at h9
  have ho9 : ∀ p ∈ l.take k.toNat, Okp p := fun p hp => ho p (List.mem_of_mem_take hp)
  have hd9 : ((l.take k.toNat).map Pt.x).Nodup := hd.sublist ((List.take_sublist _ _).map _)
  have hl9 : (l.take k.toNat).length ≤ 1000 := by rw [List.length_take]; omega
  have dis9 := dis_of ho9 hd9
  refine (poly_c w r9 (l.take k.toNat) h9 hl9 ho9 hd9).use ?_
  rintro r10 w2 ⟨⟨F, ds, od, fd, hdl, hds⟩, q2⟩
  have rd := od.rd ci1 (by decide)
  have h9' := h9.keepQ q2
  refine ⟨fun i w' => k ≤ i ∧ (i ≤ l.length ∨ i = k) ∧ (∀ (j : Nat) (p : Pt), k ≤ j → (j : Int) < i → l[j]? = some p → cg (lag (l.take k.toNat) p.x) p.y) ∧ Quiet w2 w', fun i _ => (l.length - i).toNat, ⟨Int.le_refl _, .inr rfl, fun j p h1 h2 => by omega, Only.refl _ _⟩, ?_⟩
  rintro i w3 ⟨i0, i1, hn, q3⟩
  refine ⟨fun hi => ?_, fun hi => ?_⟩
  rotate_left
  · have hi : ¬ i < (s.len : Int) := of_decide_eq_false hi
    refine (at_c w3 r9 r10 (l.take k.toNat) ds 0 (h9'.keepQ q3) (rd.keepQ q3) hl9 ho9 (by decide) hdl hds).use ?_
    rintro r w7 ⟨fr, cr, q7⟩
    refine ⟨⟨fun _ p hp => ?_, fun _ => rfl⟩, fun _ => ⟨fr, cr.trans (newt_lag dis9 0)⟩, fun e => (by cases e), (q2.tr q3).tr q7⟩
    obtain ⟨j, hj⟩ := List.getElem?_of_mem hp
    rw [List.getElem?_drop] at hj
    have := (List.getElem?_eq_some_iff.1 hj).1
    exact hn _ p (by omega) (by omega) hj
  have hi : i < (s.len : Int) := of_decide_eq_true hi
  have i00 : 0 ≤ i := by omega
  obtain ⟨a, hai⟩ := getq (l := l) i00 (by omega)
  have hoa := ho a (List.mem_of_getElem? hai)
  refine jn.mk (fun r w' => (r = false ↔ cg (lag (l.take k.toNat) a.x) a.y) ∧ Quiet w2 w') ?_ ?_
  · show tk _ _
    unfold tk
    replace q3 := q3.tr (Only.drew (fun _ => False) _)
    have h' := h.keepQ (q2.tr q3)
    refine h'.ixx i00 hai fun p1 hat1 hp1 => hat1.ld (j := 0) rfl (h'.ixx i00 hai fun p2 hat2 hp2 => hat2.ld (j := 1) rfl ?_)
    refine (at_c _ r9 r10 (l.take k.toNat) ds a.x (h9'.keepQ q3) (rd.keepQ q3) hl9 ho9 hoa.1 hdl hds).use ?_
    rintro r w5 ⟨fr, cr, q5⟩
    refine ⟨(hat2.keep q5 id).cj (j := 1) rfl, ?_, q3.tr q5⟩
    have cr' := cr.trans (newt_lag dis9 a.x)
    rw [Bool.not_eq_false', decide_eq_true_eq]
    constructor
    · intro e
      exact cr'.symm.trans (cg.of e)
    · intro e
      exact fld_eq (cr'.trans e) fr hoa.2
  rintro r w6 ⟨hr, q6⟩
  refine ⟨fun g => ⟨⟨fun e => (by cases e), fun e => ?_⟩, fun e => (by cases e), fun _ => rfl, q2.tr q6⟩, fun g => ?_⟩
  · have : cg (lag (l.take k.toNat) a.x) a.y := e a (by
      refine List.mem_iff_getElem?.2 ⟨i.toNat - k.toNat, ?_⟩
      rw [List.getElem?_drop, show k.toNat + (i.toNat - k.toNat) = i.toNat by omega]
      exact hai)
    rw [hr.2 this] at g
    cases g
  · rw [w64 (by omega) (by omega)]
    refine ⟨⟨by omega, by omega, ?_, q6⟩, by (try dsimp only); omega⟩
    intro j p h1 h2 hp
    by_cases e : (j : Int) < i
    · exact hn j p h1 e hp
    · have : j = i.toNat := by omega
      subst this
      rw [hai] at hp
      injection hp with hp
      subst hp
      exact hr.1 g
theorem rjoin_c (w : World) (s : Sl) (l : List Pt) (k : Int) (h : Rd w pt 2 s l) (hsc : s.len ≤ s.cap) (hl : l.length ≤ 1000) :
    callC Try.prog 35 #[s.v, .int .i64 k] (fun (r : Int × Int) => .tuple #[.int .i64 r.1, .int .i64 r.2]) w fun r w' => JoinR l k r ∧ Quiet w w' := by
  have hsl := h.len
  refine D35 _ _ w _ ?_
  unfold F35
  refine (wrong_c w s l k h hl).use ?_
  rintro _ w1 ⟨rfl, q1⟩
  refine ⟨fun g => ⟨.inl ⟨nd g, rfl⟩, q1⟩, fun g => ?_⟩
  have g := nt g
  obtain ⟨hk, hin, hnd⟩ := wrong0 g
  refine ⟨fun g1 => ⟨.inr ⟨g, .inl ⟨by have := of_decide_eq_true g1; omega, rfl⟩⟩, q1⟩, fun g1 => ?_⟩
  have g1 : k ≤ l.length := by have := of_decide_eq_false g1; omega
  refine (on_c w1 s l k (h.keepQ q1) hsc hl (fun p hp => (hin p hp).okp) hnd (by omega)).use ?_
  rintro ⟨r, b⟩ w2 ⟨h1, h2, h3, q2⟩
  dsimp only at h1 h2 h3 ⊢
  refine ⟨fun g2 => ⟨.inr ⟨g, .inr ⟨g1, .inl ⟨fun c => ?_, rfl⟩⟩⟩, q1.tr q2⟩, fun g2 => ?_⟩
  · rw [h1.2 c] at g2
    cases g2
  · have g2 : b = true := by simpa using g2
    exact ⟨.inr ⟨g, .inr ⟨g1, .inr ⟨h1.1 g2, (h2 g2).1, (h2 g2).2, rfl⟩⟩⟩, q1.tr q2⟩
theorem JoinR.uniq {l : List Pt} {k : Int} {r t : Int × Int} (h : JoinR l k r) (h' : JoinR l k t) : r = t := by
  rcases h with ⟨h1, h2⟩ | ⟨h1, ⟨h2, h3⟩ | ⟨h2, ⟨h3, h4⟩ | ⟨h3, h4, h5, h6⟩⟩⟩ <;> rcases h' with ⟨k1, k2⟩ | ⟨k1, ⟨k2, k3⟩ | ⟨k2, ⟨k3, k4⟩ | ⟨k3, k4, k5, k6⟩⟩⟩
  · rw [h2, k2]
  · exact absurd k1 h1
  · exact absurd k1 h1
  · exact absurd k1 h1
  · exact absurd h1 k1
  · rw [h3, k3]
  · omega
  · omega
  · exact absurd h1 k1
  · omega
  · rw [h4, k4]
  · exact absurd k3 h3
  · exact absurd h1 k1
  · omega
  · exact absurd h3 k3
  · exact Prod.ext (fld_eq (h5.trans k5.symm) h4 k4) (h6.trans k6.symm)

end Go.Proofs.Ytmnhehklhelpeaa
