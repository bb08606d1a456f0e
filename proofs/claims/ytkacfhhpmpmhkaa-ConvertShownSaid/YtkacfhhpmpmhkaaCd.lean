import Derived.Test.YtkacfhhpmpmhkaaCc
namespace Go.Proofs.Ytkacfhhpmpmhkaa
open Go.Dec Go.RowKit
set_option maxHeartbeats 800000
set_option maxRecDepth 10000

theorem Best.nil {L : List Ch} {n : Int} {u : ByteArray} {T : List ByteArray} (h : u ∈ T) : Best L n u T [] :=
  ⟨⟨u, h, rfl⟩, fun p _ _ _ => by
    cases p with
    | nil => exact sle_refl _
    | cons x p => exact .inr (.inl (by simp))⟩
/-- each rest of a best way is one -/
theorem Best.rest {L : List Ch} {n : Int} {u v : ByteArray} {T : List ByteArray} {a b : List Nat} (h : Best L n u T (a ++ b)) (ha : Leads L n u a v) : Best L n v T b := by
  obtain ⟨⟨x, hx, hl⟩, hm⟩ := h
  obtain ⟨v', h1, h2⟩ := hl.split
  have : v' = v := h1.uniq ha
  subst this
  exact ⟨⟨x, hx, h2⟩, fun p y hp hy => sle_pre' a (hm (a ++ p) y (ha.app hp) hy)⟩
theorem Best.in_ {L : List Ch} {n : Int} {u : ByteArray} {T : List ByteArray} {a : List Nat} (h : Best L n u T a) : u ∈ T ↔ a = [] := by
  constructor
  · intro hu
    exact h.uniq (Best.nil hu)
  · rintro rfl
    obtain ⟨⟨v, hv, e⟩, _⟩ := h
    have e : u = v := e
    exact e ▸ hv
theorem Best.not {L : List Ch} {n : Int} {u : ByteArray} {T : List ByteArray} {a : List Nat} (h : Best L n u T a) : ¬ NoWay L n u T := fun g => by
  obtain ⟨⟨v, hv, hl⟩, _⟩ := h
  exact g _ _ hl hv
theorem PathR.yes {L : List Ch} {u : ByteArray} {T : List ByteArray} {n : Int} {a : List Nat} {is : Bool} (h : PathR L u T n a is) (hi : is = true) : 0 ≤ n ∧ L.length ≤ 200 ∧ Best L n u T a := by
  rcases h with ⟨_, _, h⟩ | ⟨h1, ⟨_, h⟩ | ⟨h, _⟩⟩
  · rw [h] at hi; cases hi
  · exact ⟨by omega, by omega, h⟩
  · rw [h] at hi; cases hi
theorem PathR.no {L : List Ch} {u : ByteArray} {T : List ByteArray} {n : Int} {a : List Nat} {is : Bool} (h : PathR L u T n a is) (hi : is = false) : a = [] := by
  rcases h with ⟨_, h, _⟩ | ⟨h1, ⟨h, _⟩ | ⟨_, h, _⟩⟩
  · exact h
  · rw [h] at hi; cases hi
  · exact h
/-- a way is found, if there is one -/
theorem PathR.finds {L : List Ch} {u : ByteArray} {T : List ByteArray} {n : Int} {a : List Nat} {is : Bool} (h : PathR L u T n a is) (h0 : 0 ≤ n) (hL : L.length ≤ 200) {p : List Nat} {v : ByteArray} (hp : Leads L n u p v) (hv : v ∈ T) : is = true ∧ Best L n u T a ∧ sle a p := by
  rcases h with ⟨h, _⟩ | ⟨h1, ⟨h, hb⟩ | ⟨h, _, hn⟩⟩
  · omega
  · exact ⟨h, hb, hb.2 p v hp hv⟩
  · exact absurd hv (hn p v hp)
theorem PathR.uniq {L : List Ch} {u : ByteArray} {T : List ByteArray} {n : Int} {a b : List Nat} {i j : Bool} (h : PathR L u T n a i) (k : PathR L u T n b j) : a = b ∧ i = j := by
  cases hi : i <;> cases hj : j
  · exact ⟨(h.no hi).trans (k.no hj).symm, rfl⟩
  · obtain ⟨k0, k1, ⟨v, hv, hl⟩, _⟩ := k.yes hj
    have := (h.finds k0 k1 hl hv).1
    rw [hi] at this
    cases this
  · obtain ⟨k0, k1, ⟨v, hv, hl⟩, _⟩ := h.yes hi
    have := (k.finds k0 k1 hl hv).1
    rw [hj] at this
    cases this
  · exact ⟨(h.yes hi).2.2.uniq (k.yes hj).2.2, rfl⟩

/-- a best way comes to no type twice -/
def ends (L : List Ch) : ByteArray → List Nat → List ByteArray
  | u, [] => [u]
  | u, i :: p => u :: match L[i]? with | some c => ends L c.dst p | none => []
theorem ends_len {L : List Ch} {n : Int} : ∀ {p : List Nat} {u v : ByteArray}, Leads L n u p v → (ends L u p).length = p.length + 1
  | [], _, _, _ => rfl
  | i :: p, u, v, ⟨c, h1, _, _, h4⟩ => by
    have := ends_len h4
    rw [ends, h1, List.length_cons, this, List.length_cons]
theorem ends_in {L : List Ch} {n : Int} : ∀ {p : List Nat} {u v x : ByteArray}, Leads L n u p v → x ∈ ends L u p → ∃ a b, p = a ++ b ∧ Leads L n u a x
  | [], u, _, x, _, hx => by
    simp [ends] at hx
    exact ⟨[], [], rfl, hx.symm⟩
  | i :: p, u, v, x, ⟨c, h1, h2, h3, h4⟩, hx => by
    rw [ends, h1, List.mem_cons] at hx
    rcases hx with e | e
    · exact ⟨[], i :: p, rfl, e.symm⟩
    · obtain ⟨a, b, rfl, hl⟩ := ends_in h4 e
      exact ⟨i :: a, b, rfl, c, h1, h2, h3, hl⟩
theorem Best.nodup {L : List Ch} {n : Int} {T : List ByteArray} : ∀ {p : List Nat} {u : ByteArray}, Best L n u T p → (ends L u p).Nodup
  | [], _, _ => by simp [ends]
  | i :: p, u, h => by
    obtain ⟨⟨v, hv, c, h1, h2, h3, h4⟩, hm⟩ := id h
    have hb : Best L n c.dst T p := Best.rest (a := [i]) (b := p) h ⟨c, h1, h2, h3, rfl⟩
    rw [ends, h1, List.nodup_cons]
    refine ⟨fun hu => ?_, hb.nodup⟩
    obtain ⟨a, b, rfl, hl⟩ := ends_in h4 hu
    have := Best.rest (a := i :: a) (b := b) h ⟨c, h1, h2, h3, hl⟩
    have := congrArg List.length (h.uniq this)
    simp at this
    omega
theorem ends_sub {L : List Ch} : ∀ {p : List Nat} {u x : ByteArray}, x ∈ ends L u p → x ∈ u :: L.map Ch.dst
  | [], u, x, hx => by
    simp [ends] at hx
    simp [hx]
  | i :: p, u, x, hx => by
    rw [ends] at hx
    cases hc : L[i]? with
    | none =>
      rw [hc] at hx
      simp at hx
      simp [hx]
    | some c =>
      rw [hc, List.mem_cons] at hx
      rcases hx with e | e
      · simp [e]
      · have := ends_sub e
        rw [List.mem_cons] at this ⊢
        rcases this with e | e
        · exact .inr (e ▸ List.mem_map.2 ⟨c, List.mem_of_getElem? hc, rfl⟩)
        · exact .inr e
theorem Best.len_le {L : List Ch} {n : Int} {u : ByteArray} {T : List ByteArray} {a : List Nat} (h : Best L n u T a) : a.length ≤ L.length := by
  have h1 := nodup_le h.nodup fun x hx => ends_sub hx
  obtain ⟨⟨v, _, hl⟩, _⟩ := h
  rw [ends_len hl] at h1
  simpa using h1
theorem PathR.len_le {L : List Ch} {u : ByteArray} {T : List ByteArray} {n : Int} {a : List Nat} {is : Bool} (h : PathR L u T n a is) : a.length ≤ L.length := by
  cases hi : is with
  | false => rw [h.no hi]; exact Nat.zero_le _
  | true => exact (h.yes hi).2.2.len_le

/-! ### examples -/
def wk (L : List Ch) (n : Int) : Nat → ByteArray → List (List Nat × ByteArray)
  | 0, u => [([], u)]
  | k + 1, u => (List.range L.length).flatMap fun i => match L[i]? with
    | some c => if c.src = u ∧ n ≤ c.most then (wk L n k c.dst).map fun x => (i :: x.1, x.2) else []
    | none => []
theorem wk_mem {L : List Ch} {n : Int} : ∀ {p : List Nat} {u v : ByteArray}, Leads L n u p v → (p, v) ∈ wk L n p.length u
  | [], u, v, h => by
    have h : u = v := h
    simp [wk, h]
  | i :: p, u, v, ⟨c, h1, h2, h3, h4⟩ => by
    show _ ∈ List.flatMap _ _
    rw [List.mem_flatMap]
    refine ⟨i, List.mem_range.2 (List.getElem?_eq_some_iff.1 h1).1, ?_⟩
    rw [h1]
    dsimp only
    rw [if_pos ⟨h2, h3⟩, List.mem_map]
    exact ⟨(p, v), wk_mem h4, rfl⟩
instance decLx : ∀ a b, Decidable (lx a b)
  | x :: a, y :: b => have := decLx a b; inferInstanceAs (Decidable (x < y ∨ (x = y ∧ lx a b)))
  | [], _ => .isFalse id
  | _ :: _, [] => .isFalse id
instance (a b : List Nat) : Decidable (sl a b) := by unfold sl; infer_instance
instance (a b : List Nat) : Decidable (sle a b) := by unfold sle; infer_instance
theorem best_of {L : List Ch} {n : Int} {u v : ByteArray} {T : List ByteArray} {a : List Nat} (hv : v ∈ T) (hl : Leads L n u a v) (h : ∀ k, k < a.length + 1 → ∀ x ∈ wk L n k u, x.2 ∈ T → sle a x.1) : Best L n u T a :=
  ⟨⟨v, hv, hl⟩, fun p x hp hx => by
    by_cases hk : p.length < a.length + 1
    · exact h _ hk _ (wk_mem hp) hx
    · exact .inr (.inl (by omega))⟩
theorem noway_of {L : List Ch} {n : Int} {T : List ByteArray} (R : List ByteArray) (h1 : ∀ t ∈ R, t ∉ T) (h2 : ∀ c ∈ L, c.src ∈ R → n ≤ c.most → c.dst ∈ R) : ∀ (p : List Nat) (u v : ByteArray), u ∈ R → Leads L n u p v → v ∉ T
  | [], u, v, hu, h => by
    have h : u = v := h
    exact h ▸ h1 u hu
  | _ :: p, u, v, hu, ⟨c, g1, g2, g3, g4⟩ => noway_of R h1 h2 p c.dst v (h2 c (List.mem_of_getElem? g1) (g2 ▸ hu) g3) g4
def bmp : ByteArray := ⟨#[98, 109, 112]⟩
def png : ByteArray := ⟨#[112, 110, 103]⟩
def jpg : ByteArray := ⟨#[106, 112, 103]⟩
def gif : ByteArray := ⟨#[103, 105, 102]⟩
def chgs : List Ch := [⟨bmp, png, 1000⟩, ⟨png, jpg, 100⟩, ⟨bmp, gif, 5000⟩, ⟨gif, jpg, 5000⟩]
theorem ex1 : Best chgs 50 bmp [jpg] [0, 1] := best_of (v := jpg) (by simp) ⟨_, rfl, rfl, by decide, _, rfl, rfl, by decide, rfl⟩ (by decide +kernel)
theorem ex2 : Best chgs 500 bmp [jpg] [2, 3] := best_of (v := jpg) (by simp) ⟨_, rfl, rfl, by decide, _, rfl, rfl, by decide, rfl⟩ (by decide +kernel)
theorem ex3 : NoWay chgs 500 png [jpg] := fun p v h => noway_of [png] (by decide +kernel) (by decide +kernel) p png v (by simp) h
theorem ex4 : Best chgs 1 gif [png, gif] [] := Best.nil (by simp)
theorem strs {w : World} {b n : Nat} {l : List ByteArray} {cs : Array Value} (h : Blk w b 9 cs) (hn : cs.size = n) (hc : cs.toList = l.flatMap cb) (hl : n ≤ 100) : Rd w cb 1 (⟨some ⟨b, 0, none⟩, n, n⟩ : Sl) l := by
  have := own_row (n := n) (sz := 1) h (by omega) (by unfold maxLen; omega)
  rw [hc] at this
  exact this.rd cb1 (by decide)
theorem changes_c (w : World) : callC Try.prog 20 #[] (fun (r : Sl) => Sl.v r) w fun r w' => Rd w' ch 3 r chgs ∧ Quiet w w' := by
  refine D20 w _ ?_
  unfold F20
  exact nwL fun b w1 hb q _ _ _ => ⟨ch_row hb rfl rfl, q⟩
theorem small_c (w : World) : callC Try.prog 8 #[] (fun (r : Bool) => .bool r) w fun r w' => r = true ∧ Quiet w w' := by
  refine D8 w _ ?_
  unfold F8
  refine (changes_c w).use ?_
  rintro r1 w1 ⟨h1, q⟩
  refine nwL fun b2 w2 hb2 q2 _ _ _ => ?_
  replace q := q.tr q2
  refine (path_c w2 r1 _ chgs bmp [jpg] 50 (h1.keepQ q2) (strs hb2 rfl rfl (by decide)) (by decide)).use ?_
  rintro ⟨r3, i3⟩ w3 ⟨a3, h3, c3, p3, q3⟩
  have Q3 := Only.refl (fun _ => False) w3
  replace q := q.tr q3
  refine (changes_c w3).use ?_
  rintro r4 w4 ⟨h4, q4⟩
  refine nwL fun b5 w5 hb5 q5 _ _ _ => ?_
  replace q := (q.tr q4).tr q5
  replace Q3 := (Q3.tr q4).tr q5
  refine (path_c w5 r4 _ chgs bmp [jpg] 500 (h4.keepQ q5) (strs hb5 rfl rfl (by decide)) (by decide)).use ?_
  rintro ⟨r6, i6⟩ w6 ⟨a6, h6, c6, p6, q6⟩
  have Q6 := Only.refl (fun _ => False) w6
  replace q := q.tr q6
  replace Q3 := Q3.tr q6
  refine (changes_c w6).use ?_
  rintro r7 w7 ⟨h7, q7⟩
  refine nwL fun b8 w8 hb8 q8 _ _ _ => ?_
  replace q := (q.tr q7).tr q8
  replace Q3 := (Q3.tr q7).tr q8
  replace Q6 := (Q6.tr q7).tr q8
  refine (path_c w8 r7 _ chgs png [jpg] 500 (h7.keepQ q8) (strs hb8 rfl rfl (by decide)) (by decide)).use ?_
  rintro ⟨r9, i9⟩ w9 ⟨a9, h9, c9, p9, q9⟩
  replace q := q.tr q9
  replace Q3 := Q3.tr q9
  replace Q6 := Q6.tr q9
  refine (changes_c w9).use ?_
  rintro r10 w10 ⟨h10, q10⟩
  refine nwL fun b11 w11 hb11 q11 _ _ _ => ?_
  replace q := (q.tr q10).tr q11
  replace Q3 := (Q3.tr q10).tr q11
  replace Q6 := (Q6.tr q10).tr q11
  refine (path_c w11 r10 _ chgs gif [png, gif] 1 (h10.keepQ q11) (strs hb11 rfl rfl (by decide)) (by decide)).use ?_
  rintro ⟨r12, i12⟩ w12 ⟨a12, h12, c12, p12, q12⟩
  replace q := q.tr q12
  replace Q3 := Q3.tr q12
  replace Q6 := Q6.tr q12
  have y3 : PathR chgs bmp [jpg] 50 [0, 1] true := .inr ⟨by decide, .inl ⟨rfl, ex1⟩⟩
  have y6 : PathR chgs bmp [jpg] 500 [2, 3] true := .inr ⟨by decide, .inl ⟨rfl, ex2⟩⟩
  have y9 : PathR chgs png [jpg] 500 [] false := .inr ⟨by decide, .inr ⟨rfl, rfl, ex3⟩⟩
  have y12 : PathR chgs gif [png, gif] 1 [] true := .inr ⟨by decide, .inl ⟨rfl, ex4⟩⟩
  obtain ⟨rfl, rfl⟩ := p3.uniq y3
  obtain ⟨rfl, rfl⟩ := p6.uniq y6
  obtain ⟨rfl, rfl⟩ := p9.uniq y9
  obtain ⟨rfl, rfl⟩ := p12.uniq y12
  have e9 : r9.len = 0 := h9.len
  have e12 : r12.len = 0 := h12.len
  clear p3 p6 p9 p12 y3 y6 y9 y12
  refine jn_andW (v := true) (Only.refl (fun _ => False) w12) (fun _ => ?_) fun w15 q15 => ?_
  · refine nwL fun b21 w13 hb21 q21 _ _ _ => (ints_c w13 r3 _ (nz [0, 1]) (nz [0, 1]) (h3.keepQ (Q3.tr q21)) (ints_row hb21 rfl rfl) (by decide)).use ?_
    rintro _ w14 ⟨rfl, q14⟩
    exact ⟨decide_eq_true rfl, q21.tr q14⟩
  refine jn_andW (v := true) q15 (fun _ => ?_) fun w18 q18 => ?_
  · refine nwL fun b26 w16 hb26 q26 _ _ _ => (ints_c w16 r6 _ (nz [2, 3]) (nz [2, 3]) (h6.keepQ ((Q6.tr q15).tr q26)) (ints_row hb26 rfl rfl) (by decide)).use ?_
    rintro _ w17 ⟨rfl, q17⟩
    exact ⟨decide_eq_true rfl, (q15.tr q26).tr q17⟩
  refine ⟨?_, q.tr q18⟩
  dsimp only
  rw [e9, e12]
  decide +kernel
end Go.Proofs.Ytkacfhhpmpmhkaa
