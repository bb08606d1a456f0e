import Derived.Test.YtmnhehklhelpeaaSd
namespace Go.Proofs.Ytmnhehklhelpeaa
open Go.Dec Go.RowKit
set_option maxHeartbeats 1600000
set_option maxRecDepth 10000

theorem few16_c (w : World) (s : Sl) (l : List ByteArray) (h : Rd w cs 1 s l) (hl : l.length ≤ maxLen) :
    callC Try.prog 16 #[s.v] (fun (r : Bool) => .bool r) w fun r w' => (r = true → l.length ≤ 4 ∧ ∀ t ∈ l, t.size ≤ 200) ∧ w = w' := by
  have hsl := h.len
  unfold maxLen at hl
  refine D16 _ w _ ?_
  unfold F16
  refine ⟨fun i w' => 0 ≤ i ∧ i ≤ l.length ∧ i ≤ 5 ∧ (∀ (j : Nat) t, (j : Int) < i → l[j]? = some t → t.size ≤ 200) ∧ w = w', fun i _ => (l.length - i).toNat, ⟨by omega, by omega, by omega, fun j t hj => by omega, rfl⟩, ?_⟩
  rintro i w' ⟨i0, i1, i2, hs, rfl⟩
  refine ⟨fun hc => ?_, fun hc => ?_⟩
  · rw [Bool.and_eq_true, decide_eq_true_eq, decide_eq_true_eq] at hc
    obtain ⟨t, ht⟩ := getq (l := l) i0 (by omega)
    refine h.ixx i0 ht fun p hat _ => hat.ld0 rfl ⟨fun hb => ⟨fun e => (by cases e), rfl⟩, fun hb => ?_⟩
    have hb : ¬ 200 < (t.size : Int) := of_decide_eq_false hb
    rw [w64 (by omega) (by omega)]
    refine ⟨⟨by omega, by omega, by omega, fun j u hj hu => ?_, rfl⟩, by (try dsimp only); omega⟩
    by_cases e : (j : Int) < i
    · exact hs j u e hu
    · have : j = i.toNat := by omega
      subst this
      rw [ht] at hu
      injection hu with hu
      subst hu
      omega
  · rw [Bool.and_eq_false_iff, decide_eq_false_iff_not, decide_eq_false_iff_not] at hc
    refine ⟨fun hr => ?_, rfl⟩
    have hr : (s.len : Int) ≤ 4 := of_decide_eq_true hr
    refine ⟨by omega, fun t ht => ?_⟩
    obtain ⟨j, hj⟩ := List.getElem?_of_mem ht
    have := (List.getElem?_eq_some_iff.1 hj).1
    exact hs j t (by omega) hj

/-- a safe whose objects are all new since the world B -/
def New (B : World) (w : World) (F : Nat → Prop) : Prop := Quiet B w ∧ ∀ b, F b → B.heap.size ≤ b
theorem New.stp {B w w' : World} {F F' : Nat → Prop} (h : New B w F) (s : Stp F w F' w') : New B w' F' :=
  ⟨h.1.new s.only h.2, fun b hb => by
    have := h.1.size
    rcases s.sub b hb with e | e
    · exact h.2 b e
    · omega⟩
theorem New.q {B w w' : World} {F : Nat → Prop} (h : New B w F) (q : Quiet w w') : New B w' F := ⟨h.1.tr q, h.2⟩
theorem SealR.grow {w w' : World} {F' : Nat → Prop} {l l' : List Bo} {t : ByteArray} {k n seed : Int} {r : Int × Sl × Int} (h : SealR w F' l l' t k n seed r w') : (l' = l ∧ (¬ okN k n ∨ 65536 < t.size)) ∨ l' = l ++ [⟨t, k, false⟩] := by
  rcases h with ⟨h1, _, h2⟩ | ⟨_, h1, _, h2⟩ | ⟨_, _, _, _, h2, _⟩
  · exact .inl ⟨h2, .inl h1⟩
  · exact .inl ⟨h2, .inr h1⟩
  · exact .inr h2

theorem made_c (B : World) (s : Sl) (l : List ByteArray) (t : ByteArray) (k n d : Int) (h : Rd B cs 1 s l) (hl : l.length ≤ 4) (hs : ∀ x ∈ l, x.size ≤ 200) (ht : t.size ≤ 200) (hk : -9223372036854775808 ≤ k) :
    callC Try.prog 17 #[s.v, .string t, .int .i64 k, .int .i64 n, .int .i64 d] (fun (r : Option Addr × Int × Sl × Int) => .tuple #[.pointer r.1, .int .i64 r.2.1, Sl.v r.2.2.1, .int .i64 r.2.2.2]) B fun r w' => ∃ sb F l', r.1 = some ⟨sb, 0, none⟩ ∧ IsS w' F sb l' ∧ New B w' F ∧
      (¬ okN k n → r.2 = (0, Sl.nil, 1)) ∧ (okN k n → r.2.1 = l.length ∧ r.2.2.2 = 0 ∧ Kp w' F r.2.2.1 (splP l.length k.toNat n.toNat d) ∧ l'.length = 2 * l.length + 1 ∧ l'[l.length]? = some ⟨t, k, false⟩) := by
  have hsl := h.len
  refine D17 _ _ _ _ _ B _ ?_
  unfold F17
  refine (new_s B).use ?_
  rintro _ w1 ⟨sb, F0, rfl, hS, q1, f1⟩
  refine ⟨fun g => by simp at g, fun _ => ?_⟩
  refine ⟨fun i w' => 0 ≤ i ∧ i ≤ l.length ∧ ∃ F l', IsS w' F sb l' ∧ (l'.length : Int) = i ∧ New B w' F, fun i _ => (l.length - i).toNat, ⟨by omega, by omega, F0, [], hS, rfl, q1, f1⟩, ?_⟩
  rintro i w2 ⟨i0, i1, F, l2, hS2, e2, n2⟩
  refine ⟨fun hi => ?_, fun hi => ?_⟩
  · have hi : i < (s.len : Int) := of_decide_eq_true hi
    obtain ⟨x, hx⟩ := getq (l := l) i0 (by omega)
    refine (h.keepQ n2.1).ixx i0 hx fun p hat _ => hat.ld0 rfl ?_
    refine (seal_c w2 F sb l2 x 1 1 i hS2 (by omega) (by decide)).use ?_
    rintro r15 w3 ⟨F3, l3, hS3, s3, hr⟩
    obtain ⟨_, _, rfl, _⟩ := hr.ok ⟨by decide, by decide⟩ (by have := hs x (List.mem_of_getElem? hx); omega)
    rw [w64 (by omega) (by omega)]
    exact ⟨⟨by omega, by omega, F3, _, hS3, by rw [List.length_append, List.length_singleton]; omega, n2.stp s3⟩, by (try dsimp only); omega⟩
  have hi : ¬ i < (s.len : Int) := of_decide_eq_false hi
  have e2 : l2.length = l.length := by omega
  refine (seal_c w2 F sb l2 t k n d hS2 (by omega) hk).use ?_
  rintro r16 w4 ⟨F4, l4, hS4, s4, hr4⟩
  have n4 := n2.stp s4
  have hno : ¬ okN k n → r16 = (0, Sl.nil, 1) := fun hc => by
    rcases hr4 with ⟨_, e, _⟩ | ⟨c, _⟩ | ⟨c, _⟩
    · exact e
    · exact absurd c hc
    · exact absurd c hc
  have hyes : okN k n → r16.1 = l.length ∧ r16.2.2 = 0 ∧ Kp w4 F4 r16.2.1 (splP l.length k.toNat n.toNat d) ∧ l4.length = l.length + 1 ∧ l4[l.length]? = some ⟨t, k, false⟩ := fun hc => by
    obtain ⟨a1, a2, rfl, a3⟩ := hr4.ok hc (by omega)
    rw [e2] at a1 a3
    refine ⟨a1, a2, a3, by simp [e2], ?_⟩
    rw [← e2]
    simp
  have hl4 : l4.length ≤ 5 := by
    rcases hr4.grow with ⟨rfl, _⟩ | rfl
    · omega
    · simp
      omega
  refine ⟨fun i w' => 0 ≤ i ∧ i ≤ l.length ∧ ∃ F l', IsS w' F sb l' ∧ (l'.length : Int) ≤ 5 + i ∧ New B w' F ∧ (okN k n → Kp w' F r16.2.1 (splP l.length k.toNat n.toNat d) ∧ (l'.length : Int) = l.length + 1 + i ∧ l'[l.length]? = some ⟨t, k, false⟩), fun i _ => (l.length - i).toNat, ⟨by omega, by omega, F4, l4, hS4, by omega, n4, fun hc => ⟨(hyes hc).2.2.1, by have := (hyes hc).2.2.2.1; omega, (hyes hc).2.2.2.2⟩⟩, ?_⟩
  rintro j w5 ⟨j0, j1, F5, l5, hS5, e5, n5, hy5⟩
  refine ⟨fun hj => ?_, fun hj => ?_⟩
  · have hj : j < (s.len : Int) := of_decide_eq_true hj
    obtain ⟨x, hx⟩ := getq (l := l) j0 (by omega)
    refine (h.keepQ n5.1).ixx j0 hx fun p hat _ => hat.ld0 rfl ?_
    refine (seal_c w5 F5 sb l5 x k n d hS5 (by omega) hk).use ?_
    rintro r21 w6 ⟨F6, l6, hS6, s6, hr6⟩
    have hxs := hs x (List.mem_of_getElem? hx)
    rw [w64 (by omega) (by omega)]
    refine ⟨⟨by omega, by omega, F6, l6, hS6, ?_, n5.stp s6, fun hc => ?_⟩, by (try dsimp only); omega⟩
    · rcases hr6.grow with ⟨rfl, _⟩ | rfl
      · omega
      · rw [List.length_append, List.length_singleton]
        omega
    · obtain ⟨_, _, rfl, _⟩ := hr6.ok hc (by omega)
      obtain ⟨a1, a2, a3⟩ := hy5 hc
      refine ⟨a1.stp s6, by rw [List.length_append, List.length_singleton]; omega, ?_⟩
      rw [List.getElem?_append_left (List.getElem?_eq_some_iff.1 a3).1]
      exact a3
  have hj : ¬ j < (s.len : Int) := of_decide_eq_false hj
  refine ⟨sb, F5, l5, rfl, hS5, n5, hno, fun hc => ?_⟩
  obtain ⟨a1, a2, a3⟩ := hy5 hc
  obtain ⟨b1, b2, _⟩ := hyes hc
  exact ⟨b1, b2, a1, by omega, a3⟩

theorem picked_c (w : World) (s : Sl) (l : List Pt) (u : Int) (h : Rd w pt 2 s l) (hl : l.length ≤ 20) (hn : l.Nodup) :
    callC Try.prog 18 #[s.v, .int .u32 u] (fun (r : Sl) => Sl.v r) w fun r w' => ∃ (m : List Pt) (F : Nat → Prop), OwnF w' F 56 2 r (m.flatMap pt) ∧ (∀ p ∈ m, p ∈ l) ∧ m.Nodup ∧ m.length ≤ 20 ∧ Fresh w w' F := by
  have hsl := h.len
  refine D18 _ _ w _ ?_
  unfold F18
  refine ⟨fun (c : Sl × Int) w' => 0 ≤ c.2 ∧ c.2 ≤ l.length ∧ ∃ (m : List Pt) (F : Nat → Prop), OwnF w' F 56 2 c.1 (m.flatMap pt) ∧ (∀ p ∈ m, p ∈ l.take c.2.toNat) ∧ m.Nodup ∧ (m.length : Int) ≤ c.2 ∧ Fresh w w' F, fun c _ => (l.length - c.2).toNat, ⟨by simp, by (try dsimp only); omega, [], _, OwnF.nil _ _ _ _, by simp, by simp, by simp, Fresh.none _⟩, ?_⟩
  rintro ⟨out, i⟩ w1 ⟨i0, i1, m, F, o1, hm, hmn, hml, f1⟩
  dsimp only at i0 i1 o1 hm hml ⊢
  refine ⟨fun hi => ?_, fun hi => ⟨m, F, o1, fun p hp => List.mem_of_mem_take (hm p hp), hmn, by omega, f1⟩⟩
  have hi : i < (s.len : Int) := of_decide_eq_true hi
  obtain ⟨q, hq⟩ := getq (l := l) i0 (by omega)
  refine jn.mk (fun (r : Sl) w' => ∃ (m : List Pt) (F : Nat → Prop), OwnF w' F 56 2 r (m.flatMap pt) ∧ (∀ p ∈ m, p ∈ l.take (i.toNat + 1)) ∧ m.Nodup ∧ (m.length : Int) ≤ i + 1 ∧ Fresh w w' F) ?_ ?_
  rotate_left
  · rintro r w2 hr
    rw [w64 (by omega) (by omega)]
    refine ⟨⟨by (try dsimp only); omega, by (try dsimp only); omega, ?_⟩, by (try dsimp only); omega⟩
    (try dsimp only)
    rw [toNat_succ i0]
    exact hr
  have hsub : ∀ p ∈ m, p ∈ l.take (i.toNat + 1) := fun p hp => by
    rw [take_next hq]
    exact List.mem_append_left _ (hm p hp)
  refine ⟨i0, fun _ => ?_, fun _ => ⟨m, F, o1, hsub, hmn, by omega, f1⟩⟩
  refine (h.keepQ f1.q).ixx i0 hq fun p hat _ => pt_ld hat (nwL fun b18 w3 hb18 q3 g3 _ l3 => ?_)
  have ob : OwnF w3 (fun x => x = b18) 56 2 (⟨some ⟨b18, 0, none⟩, 1, 1⟩ : Sl) ([q].flatMap pt) := own_row (n := 1) (sz := 2) hb18 rfl (by decide)
  have fb : Fresh w w3 (fun x => x = b18) := ⟨f1.q.tr q3, fun x hx => by have := f1.q.size; omega⟩
  refine ob.app apS ((o1.keepQ q3).rd pt_len (by decide)) pt_len (by decide) pt_one (by unfold maxLen; simp; omega) (by simp; omega) fun r19 w4 F' o4 _ st4 => ?_
  rw [← List.flatMap_append] at o4
  refine ⟨[q] ++ m, F', o4, fun p hp => ?_, ?_, by simp; omega, fb.stp st4⟩
  · rcases List.mem_append.1 hp with e | e
    · rw [List.mem_singleton.1 e, take_next hq]
      simp
    · exact hsub p e
  · show (q :: m).Nodup
    rw [List.nodup_cons]
    refine ⟨fun e => ?_, hmn⟩
    have e := hm q e
    have e1 : (l.take (i.toNat + 1)).Nodup := hn.sublist (List.take_sublist _ _)
    rw [take_next hq, List.nodup_append] at e1
    exact e1.2.2 q e q (by simp) rfl
end Go.Proofs.Ytmnhehklhelpeaa
