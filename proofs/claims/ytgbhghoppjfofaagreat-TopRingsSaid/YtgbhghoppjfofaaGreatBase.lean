/-
  Small words that every seat needs.
-/
import Derived.Test.YtgbhghoppjfofaaGreatObj
namespace Go.Dec
open Go.RowKit

def ci (i : Int) : List Value := [.int .i64 i]
theorem ci1 (i : Int) : (ci i).length = 1 := rfl
theorem cione (i : Int) : (ci i).all Value.oneCell' = true := rfl
def i64 (x : Int) : Prop := -9223372036854775808 ≤ x ∧ x ≤ 9223372036854775807
theorem getq {α : Type} {l : List α} {i : Int} (h0 : 0 ≤ i) (h1 : i < l.length) : ∃ x, l[i.toNat]? = some x := ⟨_, List.getElem?_eq_getElem (by omega)⟩
theorem take_next {α : Type} {l : List α} {j : Nat} {x : α} (h : l[j]? = some x) : l.take (j + 1) = l.take j ++ [x] := by
  obtain ⟨hj, rfl⟩ := List.getElem?_eq_some_iff.1 h
  rw [List.take_succ_eq_append_getElem]
theorem bq {W w : World} (q : Quiet W w) : Below W.heap.size W w := q.below (Nat.le_refl _) fun _ e => e.elim
theorem flat_at {α : Type} {c : α → List Value} {sz : Nat} (hc : ∀ x, (c x).length = sz) : ∀ {l : List α} {i j : Nat} {x : α} {v : Value}, l[i]? = some x → (c x)[j]? = some v → (l.flatMap c)[i * sz + j]? = some v
  | y :: l, 0, j, x, v, h, hv => by
    simp at h
    subst h
    have hj := (List.getElem?_eq_some_iff.1 hv).1
    rw [List.flatMap_cons, Nat.zero_mul, Nat.zero_add, List.getElem?_append_left hj]
    exact hv
  | y :: l, i + 1, j, x, v, h, hv => by
    rw [List.flatMap_cons, List.getElem?_append_right (by rw [hc, Nat.add_mul]; omega), hc, show (i + 1) * sz + j - sz = i * sz + j by rw [Nat.add_mul]; omega]
    exact flat_at hc (by simpa using h) hv
  | [], _, _, _, _, h, _ => by simp at h
theorem OwnF.setj {α : Type} {w : World} {F : Nat → Prop} {e sz : Nat} {s : Sl} {c : α → List Value} {l : List α} {i : Int} {x y : α} {j : Nat} {u : Value} {K : World → Prop} (h : OwnF w F e sz s (l.flatMap c)) (hc : ∀ x, (c x).length = sz)
    (h0 : 0 ≤ i) (hx : l[i.toNat]? = some x) (hy : c y = (c x).set j u) (hj : j < sz)
    (k : ∀ w', OwnF w' F e sz s ((l.set i.toNat y).flatMap c) → Only F w w' → w'.heap.size = w.heap.size → K w') : ix s i sz fun p => st (p.add j) [u] w K :=
  Own.set h.own hc h0 hx hy hj fun w' h1 h2 h3 => k w' ⟨h1, h.blk⟩ (h2.mono fun b _ hb => h.blk b hb) h3
/-- what is written is newer than the world that is kept -/
theorem Quiet.new {F : Nat → Prop} {w w' w'' : World} (q : Quiet w w') (on : Only F w' w'') (h : ∀ x, F x → w.heap.size ≤ x) : Quiet w w'' := (q.trans on).mono fun x hx e => e.elim id fun e => by have := h x e; omega
theorem own_row {w : World} {b e sz n : Nat} {cs : Array Value} (h : Blk w b e cs) (hs : cs.size = n * sz) (hn : n ≤ maxLen) : OwnF w (fun x => x = b) e sz (⟨some ⟨b, 0, none⟩, n, n⟩ : Sl) cs.toList :=
  ⟨Own.mk' rfl h (Nat.le_refl _) hn hs (List.take_of_length_le (by simp [hs])), fun x hx => by simpa [Sl.blk] using hx.symm⟩
/-- a place of an array -/
theorem rn_arr {P : Program} {w : World} {t e n sz : Nat} {a : Addr} {i : Int} {K : Addr → World → Prop} (ht : P.underlying t = some (.array n e)) (hs : ∃ inf, P.info? e = some inf ∧ inf.size = sz) (h0 : 0 ≤ i) (h1 : i < n) (k : K (a.add (i.toNat * sz)) w) :
    rn P (Instr.indexAt t (.pointer (some a)) (.int .i64 i)) (fun a : Addr => Value.pointer (some a)) w K := by
  obtain ⟨inf, h2, h3⟩ := hs
  refine ⟨_, w, ?_, k⟩
  simp [Instr.indexAt, asIntOf, run_underlying ht, Instr.sureAddr, h0, h1, sizeOf, typeInfo, h2, h3]
theorem nd {p : Prop} [Decidable p] (h : (!decide p) = true) : ¬ p := by simpa only [Bool.not_eq_true', decide_eq_false_iff_not] using h
theorem nt {p : Prop} [Decidable p] (h : (!decide p) = false) : p := by simpa only [Bool.not_eq_false', decide_eq_true_eq] using h
/-! ### conditions that are cut short -/
theorem jp_or {c v : Bool} {T : (Bool → Prop) → Prop} {k : Bool → Prop} (hT : c = false → ∀ J : Bool → Prop, J v → T J) (hk : k (c || v)) : jp (fun J => cnd c (J true) (T J)) k :=
  jp.val (c || v) ⟨fun e => by rw [e]; rfl, fun e => hT e _ (by rw [e]; rfl)⟩ hk
theorem jp_and {c v : Bool} {T : (Bool → Prop) → Prop} {k : Bool → Prop} (hT : c = true → ∀ J : Bool → Prop, J v → T J) (hk : k (c && v)) : jp (fun J => cnd c (T J) (J false)) k :=
  jp.val (c && v) ⟨fun e => hT e _ (by rw [e]; rfl), fun e => by rw [e]; rfl⟩ hk
theorem jn_or {w : World} {c v : Bool} {T : (Bool → World → Prop) → Prop} {k : Bool → World → Prop} (hT : c = false → ∀ J : Bool → World → Prop, (∀ w', Quiet w w' → J v w') → T J) (hk : ∀ w', Quiet w w' → k (c || v) w') : jn (fun J => cnd c (J true w) (T J)) k :=
  jn.mk (fun x w' => x = (c || v) ∧ Quiet w w') ⟨fun e => ⟨by rw [e]; rfl, Only.refl _ _⟩, fun e => hT e _ fun w' q => ⟨by rw [e]; rfl, q⟩⟩ fun x w' ⟨e, q⟩ => e ▸ hk w' q
theorem jn_and {w : World} {c v : Bool} {T : (Bool → World → Prop) → Prop} {k : Bool → World → Prop} (hT : c = true → ∀ J : Bool → World → Prop, (∀ w', Quiet w w' → J v w') → T J) (hk : ∀ w', Quiet w w' → k (c && v) w') : jn (fun J => cnd c (T J) (J false w)) k :=
  jn.mk (fun x w' => x = (c && v) ∧ Quiet w w') ⟨fun e => hT e _ fun w' q => ⟨by rw [e]; rfl, q⟩, fun e => ⟨by rw [e]; rfl, Only.refl _ _⟩⟩ fun x w' ⟨e, q⟩ => e ▸ hk w' q
theorem jn_t {W w : World} {c : Bool} {A : (Bool → World → Prop) → Prop} {k : Bool → World → Prop} (hc : c = true) (h : A (fun r w' => r = true ∧ Quiet W w')) (hk : ∀ w', Quiet W w' → k true w') : jn (fun J => cnd c (A J) (J false w)) k :=
  jn.mk _ ⟨fun _ => h, fun e => by rw [hc] at e; cases e⟩ fun r w' ⟨e, q⟩ => e ▸ hk w' q
theorem cnd_c {c d : Bool} {A B : Prop} (e : c = d) (h : cnd d A B) : cnd c A B := e ▸ h
theorem use_same {α : Type} {P : Program} {f : FuncId} {args : Array Value} {enc : α → Value} {w : World} {v : α} {K : α → World → Prop} (h : callC P f args enc w fun r w' => r = v ∧ w = w') (hk : K v w) : callC P f args enc w K :=
  h.use fun _ _ ⟨e1, e2⟩ => e1 ▸ e2 ▸ hk
theorem ints_row {w : World} {b n t : Nat} {l : List Int} {cs : Array Value} (h : Blk w b t cs) (hn : n = l.length) (hc : cs = (l.map (Value.int .i64)).toArray) : Rd w ci 1 (⟨some ⟨b, 0, none⟩, n, n⟩ : Sl) l := by
  subst hc
  refine ⟨hn, fun i x hx => ⟨_, rfl, fun j u hu => ?_⟩⟩
  match j, hu with
  | 0, hu =>
    simp [ci] at hu
    subst hu
    rw [mk_add, mk_add, h.cell]
    simp [hx]
  | j + 1, hu => simp [ci] at hu
theorem splice_toList : ∀ (vs : List Value) (i : Nat) (cs : Array Value), i + vs.length = cs.size → (splice cs i vs).toList = cs.toList.take i ++ vs
  | [], i, cs, h => by
    have : cs.toList.length ≤ i := by simpa using Nat.le_of_eq h.symm
    simp [splice, List.take_of_length_le this]
  | v :: r, i, cs, h => by
    have hl : i < cs.toList.length := by
      have : i + (r.length + 1) = cs.size := h
      simp
      omega
    rw [splice, splice_toList r (i + 1) _ (by simp at h ⊢; omega)]
    have : (cs.toList.set i v)[i]? = some v := by rw [List.getElem?_set_self hl]
    rw [Array.toList_setIfInBounds, take_next this, List.take_set_of_le (Nat.le_refl i)]
    simp
theorem splice_all {vs : List Value} {cs : Array Value} (h : cs.size = vs.length) : splice cs 0 vs = vs.toArray := by
  have := splice_toList vs 0 cs (by omega)
  apply Array.ext'
  rw [this]
  rfl
theorem box_all {t : TypeId} {zs : Array Value} {vs : List Value} {w : World} {K : Nat → World → Prop} (h : zs.size = vs.length) (k : ∀ b w', Blk w' b t vs.toArray → Quiet w w' → w.heap.size ≤ b → b < w'.heap.size → K b w') :
    nw t zs w fun b w1 => st (Addr.mk b 0 none) vs w1 fun w2 => K b w2 := by
  refine nwL fun b w1 hb q g _ l => hb.st0 (by omega) fun w2 hb2 on s2 => ?_
  rw [splice_all h] at hb2
  exact k b w2 hb2 ((q.trans on).mono fun x hx e => e.elim id fun e => by omega) g (by omega)
theorem jn_any' {W : World} (v : Bool) {T : (Bool → World → Prop) → Prop} {k : Bool → World → Prop} (h : T (fun r w' => r = v ∧ Quiet W w')) (hk : ∀ w', Quiet W w' → k v w') : jn T k :=
  jn.mk _ h fun _ w' ⟨e, q⟩ => e ▸ hk w' q
/-- conditions that are cut short, over a world that is kept -/
theorem jn_orW {W w : World} {c v : Bool} {T : (Bool → World → Prop) → Prop} {k : Bool → World → Prop} (q : Quiet W w) (hT : c = false → T (fun r w' => r = v ∧ Quiet W w')) (hk : ∀ w', Quiet W w' → k (c || v) w') : jn (fun J => cnd c (J true w) (T J)) k :=
  jn_any' (c || v) ⟨fun e => ⟨by rw [e]; rfl, q⟩, fun e => by rw [e]; exact hT e⟩ hk
theorem jn_andW {W w : World} {c v : Bool} {T : (Bool → World → Prop) → Prop} {k : Bool → World → Prop} (q : Quiet W w) (hT : c = true → T (fun r w' => r = v ∧ Quiet W w')) (hk : ∀ w', Quiet W w' → k (c && v) w') : jn (fun J => cnd c (T J) (J false w)) k :=
  jn_any' (c && v) ⟨fun e => by rw [e]; exact hT e, fun e => ⟨by rw [e]; rfl, q⟩⟩ hk
end Go.Dec
