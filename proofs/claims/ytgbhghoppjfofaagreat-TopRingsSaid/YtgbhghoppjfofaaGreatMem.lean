/-
  Words on memory, and how the formulas are met by them. Over any program.
-/
import Derived.Test.YtgbhghoppjfofaaGreatDecOps
namespace Go.Dec
open Go.RowKit

@[simp] theorem add_zero' (a : Addr) : a.add 0 = a := by simp [Addr.add]
theorem mk_add (b o i : Nat) : (Addr.mk b o none).add i = Addr.mk b (o + i) none := by unfold Addr.add; split <;> simp_all
theorem add_add' (a : Addr) (i j : Nat) : (a.add i).add j = a.add (i + j) := by
  unfold Addr.add
  by_cases hi : i = 0 <;> by_cases hj : j = 0 <;> simp [hi, hj, Nat.add_assoc]
theorem add_block (a : Addr) (i : Nat) : (a.add i).block = a.block := by unfold Addr.add; split <;> rfl

/-! ### what has turned -/
structure Only (F : Nat → Prop) (w w' : World) : Prop where
  os : w'.os = w.os
  tape : w'.tape = w.tape
  output : w'.output = w.output
  size : w.heap.size ≤ w'.heap.size
  block : ∀ k, k < w.heap.size → ¬ F k → w'.heap[k]? = w.heap[k]?
abbrev Quiet := Only (fun _ => False)

section
variable {F G : Nat → Prop} {w w' w'' : World}
theorem Only.refl (F : Nat → Prop) (w : World) : Only F w w := ⟨rfl, rfl, rfl, Nat.le_refl _, fun _ _ _ => rfl⟩
theorem Only.trans (h : Only F w w') (k : Only G w' w'') : Only (fun b => F b ∨ G b) w w'' :=
  ⟨k.os.trans h.os, k.tape.trans h.tape, k.output.trans h.output, Nat.le_trans h.size k.size, fun i hi hn =>
    (k.block i (Nat.lt_of_lt_of_le hi h.size) (fun e => hn (.inr e))).trans (h.block i hi (fun e => hn (.inl e)))⟩
/-- what is written is among G, or was not there when it began -/
theorem Only.mono (h : Only F w w') (hs : ∀ b, b < w.heap.size → F b → G b) : Only G w w' := ⟨h.os, h.tape, h.output, h.size, fun k hk hn => h.block k hk (fun e => hn (hs k hk e))⟩
theorem Only.then_ (h : Only F w w') (k : Only G w' w'') (hs : ∀ b, b < w.heap.size → G b → F b) : Only F w w'' :=
  (h.trans k).mono fun b hb e => e.elim id (hs b hb)
theorem Only.drew (F : Nat → Prop) (w : World) : Only F w w.drew := ⟨rfl, rfl, rfl, Nat.le_refl _, fun _ _ _ => rfl⟩
theorem Only.alloc (F : Nat → Prop) (w : World) (o : Obj) : Only F w (w.alloc o) := ⟨rfl, rfl, rfl, by simp, fun k hk _ => Below.heap_alloc w o k hk⟩
theorem Only.below (h : Only F w w') {B : Nat} (hB : B ≤ w.heap.size) (hs : ∀ b, F b → B ≤ b) : Below B w w' :=
  ⟨h.os, h.tape, h.output, h.size, fun k hk => h.block k (Nat.lt_of_lt_of_le hk hB) (fun e => by have := hs k e; omega)⟩
theorem Only.ofBelow (h : Below w.heap.size w w') : Only F w w' := ⟨h.os, h.tape, h.output, h.size, fun k hk _ => h.block k hk⟩
theorem Only.grown {row : Option Nat} (h : w.grownBy w' row) : Only (fun b => row = some b) w w' := ⟨h.os, h.tape, h.output, h.size, fun k hk hn => h.block k hk (fun e => hn e.symm)⟩
theorem Only.cell (h : Only F w w') {a : Addr} (hF : ¬ F a.block) {v : Value} (hc : w.cell? a = some v) : w'.cell? a = some v :=
  (World.cell?_of_block (h.block a.block (World.block_lt_of_cell? w a hc) hF)).trans hc
end

/-! ### a block that is known whole -/
def Blk (w : World) (b : Nat) (t : TypeId) (cs : Array Value) : Prop := w.heap[b]? = some (.cells cs t (0, 0))
section
variable {F G : Nat → Prop} {w w' : World} {b : Nat} {t : TypeId} {cs : Array Value}
theorem Blk.lt (h : Blk w b t cs) : b < w.heap.size := (Array.getElem?_eq_some_iff.1 h).1
theorem Blk.keep (h : Blk w b t cs) (ho : Only F w w') (hF : ¬ F b) : Blk w' b t cs := (ho.block b h.lt hF).trans h
theorem Blk.keepQ (h : Blk w b t cs) (ho : Quiet w w') : Blk w' b t cs := h.keep ho id
theorem Blk.cell (h : Blk w b t cs) (i : Nat) : w.cell? ⟨b, i, none⟩ = cs[i]? := cell_of_row w b i cs t (0, 0) h
theorem Blk.frozen (h : Blk w b t cs) (i : Nat) : w.frozen? ⟨b, i, none⟩ = false := frozen_of_row w b i cs t h
theorem Blk.ne (h : Blk w b t cs) {b' : Nat} {t' : TypeId} {cs' : Array Value} (h' : Blk w b' t' cs') (ht : t ≠ t') : b ≠ b' := by
  rintro rfl
  unfold Blk at h h'
  rw [h] at h'
  injection h' with h'
  injection h' with _ e
  exact ht e
theorem Blk.inj {t' : TypeId} {cs' : Array Value} (h : Blk w b t cs) (h' : Blk w b t' cs') : cs = cs' := by
  unfold Blk at h h'
  rw [h] at h'
  injection h' with h'
  injection h'

theorem Blk.ld {α : Type} {enc : α → Value} {K : α → Prop} {o i : Nat} {x : α} (h : Blk w b t cs) (hc : cs[o + i]? = some (enc x)) (k : K x) : Go.Dec.ld enc ((Addr.mk b o none).add i) w K :=
  ⟨x, by rw [mk_add, h.cell, hc], k⟩
theorem Blk.ld0 {α : Type} {enc : α → Value} {K : α → Prop} {o : Nat} {x : α} (h : Blk w b t cs) (hc : cs[o]? = some (enc x)) (k : K x) : Go.Dec.ld enc (Addr.mk b o none) w K :=
  ⟨x, by rw [h.cell, hc], k⟩

theorem Blk.ld0' {o i : Nat} {v : Value} (h : Blk w b t cs) (hc : cs[o + i]? = some v) : w.cell? ((Addr.mk b o none).add i) = some v := by rw [mk_add, h.cell, hc]
/-- a new block -/
theorem nw_ {t : TypeId} {cs : Array Value} {w : World} {K : Nat → World → Prop}
    (k : ∀ w', Blk w' w.heap.size t cs → Quiet w w' → w'.heap.size = w.heap.size + 1 → K w.heap.size w') : nw t cs w K := by
  rintro b w' rfl rfl
  exact k _ (heap_alloc_new w _) (Only.alloc _ w _) (by simp)
/-- the same, its number a letter -/
theorem nwL {t : TypeId} {cs : Array Value} {w : World} {K : Nat → World → Prop}
    (k : ∀ b w', Blk w' b t cs → Quiet w w' → w.heap.size ≤ b → w'.heap.size = w.heap.size + 1 → b < w'.heap.size → K b w') : nw t cs w K := by
  rintro b w' rfl rfl
  exact k _ _ (heap_alloc_new w _) (Only.alloc _ w _) (Nat.le_refl _) (by simp) (by simp)

def splice (cs : Array Value) (i : Nat) : List Value → Array Value
  | [] => cs
  | v :: r => splice (cs.setIfInBounds i v) (i + 1) r
theorem setAll_blk {p : Addr} (b o : Nat) (hp : p = Addr.mk b o none) : ∀ (vs : List Value) (i : Nat) (w : World) (cs : Array Value), Blk w b t cs →
    Blk (setAll w p vs i) b t (splice cs (o + i) vs) ∧ Only (fun k => k = b) w (setAll w p vs i) ∧ (setAll w p vs i).heap.size = w.heap.size
  | [], i, w, cs, h => ⟨h, Only.refl _ w, rfl⟩
  | v :: r, i, w, cs, h => by
    subst hp
    have h1 : Blk (w.setCell ((Addr.mk b o none).add i) v) b t (cs.setIfInBounds (o + i) v) := by
      rw [mk_add]
      exact heap_setCell_same w b (o + i) cs t v h
    have h2 : Only (fun k => k = b) w (w.setCell ((Addr.mk b o none).add i) v) :=
      ⟨rfl, rfl, rfl, by simp, fun k _ hn => Below.heap_setCell w _ v k (by rw [add_block]; exact hn)⟩
    obtain ⟨h3, h4, h5⟩ := setAll_blk b o rfl r (i + 1) _ _ h1
    refine ⟨?_, (h2.trans h4).mono (fun _ _ e => e.elim id id), by rw [setAll, h5]; simp⟩
    rw [setAll, splice, Nat.add_assoc]
    exact h3
theorem Blk.st {o i : Nat} {vs : List Value} {K : World → Prop} (h : Blk w b t cs) (hi : o + i + vs.length ≤ cs.size)
    (k : ∀ w', Blk w' b t (splice cs (o + i) vs) → Only (fun k => k = b) w w' → w'.heap.size = w.heap.size → K w') : Go.Dec.st ((Addr.mk b o none).add i) vs w K := by
  rw [mk_add]
  refine ⟨fun j hj => ?_, ?_⟩
  · rw [mk_add, h.cell, h.frozen]
    exact ⟨by rw [Array.getElem?_eq_getElem (by omega)]; rfl, rfl⟩
  · rintro w' rfl
    obtain ⟨h1, h2, h3⟩ := setAll_blk b (o + i) rfl vs 0 w cs h
    exact k _ h1 h2 h3
theorem Blk.st0 {o : Nat} {vs : List Value} {K : World → Prop} (h : Blk w b t cs) (hi : o + vs.length ≤ cs.size)
    (k : ∀ w', Blk w' b t (splice cs o vs) → Only (fun k => k = b) w w' → w'.heap.size = w.heap.size → K w') : Go.Dec.st (Addr.mk b o none) vs w K := by
  have := h.st (i := 0) (K := K) hi k
  rwa [add_zero'] at this
end

/-! ### a slice that reads as a list -/
def AtC (w : World) (p : Addr) (cs : List Value) : Prop := ∀ j u, cs[j]? = some u → w.cell? (p.add j) = some u
theorem AtC.ld {α : Type} {enc : α → Value} {w : World} {p : Addr} {cs : List Value} {j : Nat} {x : α} {K : α → Prop} (h : AtC w p cs) (hj : cs[j]? = some (enc x)) (k : K x) : Go.Dec.ld enc (p.add j) w K := ⟨x, h j _ hj, k⟩
theorem AtC.ld0 {α : Type} {enc : α → Value} {w : World} {p : Addr} {cs : List Value} {x : α} {K : α → Prop} (h : AtC w p cs) (hj : cs[0]? = some (enc x)) (k : K x) : Go.Dec.ld enc p w K :=
  ⟨x, by have := h 0 _ hj; rwa [add_zero'] at this, k⟩

/-- the slice s holds the list l, an element's cells given by c, sz of them -/
def Rd {α : Type} (w : World) (c : α → List Value) (sz : Nat) (s : Sl) (l : List α) : Prop :=
  s.len = l.length ∧ ∀ i x, l[i]? = some x → ∃ ad, s.a = some ad ∧ AtC w (ad.add (i * sz)) (c x)
section
variable {α : Type} {F : Nat → Prop} {w w' : World} {c : α → List Value} {sz : Nat} {s : Sl} {l : List α}
theorem Rd.len (h : Rd w c sz s l) : s.len = l.length := h.1
theorem Rd.keep (h : Rd w c sz s l) (ho : Only F w w') (hF : ∀ ad, s.a = some ad → 0 < l.length → ¬ F ad.block) : Rd w' c sz s l :=
  ⟨h.1, fun i x hx => by
    obtain ⟨ad, e, hc⟩ := h.2 i x hx
    have hpos : 0 < l.length := by have := (List.getElem?_eq_some_iff.1 hx).1; omega
    exact ⟨ad, e, fun j u hu => ho.cell (by rw [add_block, add_block]; exact hF ad e hpos) (hc j u hu)⟩⟩
theorem Rd.below {B : Nat} (h : Rd w c sz s l) (hb : Below B w w') (hF : ∀ ad, s.a = some ad → 0 < l.length → ad.block < B) : Rd w' c sz s l :=
  ⟨h.1, fun i x hx => by
    obtain ⟨ad, e, hc⟩ := h.2 i x hx
    have hpos : 0 < l.length := by have := (List.getElem?_eq_some_iff.1 hx).1; omega
    exact ⟨ad, e, fun j u hu => (hb.cell (p := (ad.add (i * sz)).add j) (by rw [add_block, add_block]; exact hF ad e hpos)).trans (hc j u hu)⟩⟩
theorem Rd.keepQ (h : Rd w c sz s l) (ho : Quiet w w') : Rd w' c sz s l := h.keep ho (fun _ _ _ => id)
theorem Rd.ix {i : Int} {K : Addr → Prop} (h : Rd w c sz s l) (h0 : 0 ≤ i) (h1 : i < l.length)
    (k : ∀ p x, l[i.toNat]? = some x → AtC w p (c x) → (∃ ad, s.a = some ad ∧ p = ad.add (i.toNat * sz)) → K p) : Go.Dec.ix s i sz K := by
  have hx : l[i.toNat]? = some (l[i.toNat]'(by omega)) := List.getElem?_eq_getElem (by omega)
  obtain ⟨ad, e, hc⟩ := h.2 i.toNat _ hx
  exact ⟨⟨h0, by rw [h.1]; exact h1⟩, ad, e, k _ _ hx hc ⟨ad, e, rfl⟩⟩
theorem Rd.nil (w : World) (c : α → List Value) (sz : Nat) : Rd w c sz Sl.nil [] := ⟨rfl, fun i x h => by simp at h⟩
end

/-! ### a row of the call's own -/
structure Own (w : World) (e sz : Nat) (s : Sl) (xs : List Value) : Prop where
  row : w.ownsRow 0 e sz s.v s.len xs
/-- the block of a slice -/
def Sl.blk (s : Sl) : Option Nat := s.a.map (·.block)
theorem Sl.own_blk (s : Sl) : s.v.ownBlock = s.blk := by
  obtain ⟨a, n, c⟩ := s
  cases a <;> rfl
section
variable {F : Nat → Prop} {w w' : World} {e sz : Nat} {s : Sl} {xs : List Value}
theorem Own.nil (w : World) (e sz : Nat) : Own w e sz Sl.nil [] := ⟨World.ownsRow_nil w 0 e sz⟩
theorem Own.len (h : Own w e sz s xs) : xs.length = s.len * sz := h.row.1
theorem Own.form (h : Own w e sz s xs) : (s = Sl.nil ∧ xs = []) ∨ ∃ g cur, s.a = some ⟨g, 0, none⟩ ∧ Blk w g e cur ∧ s.len ≤ s.cap ∧ s.cap ≤ maxLen ∧ cur.size = s.cap * sz ∧ cur.toList.take (s.len * sz) = xs := by
  obtain ⟨a, n, c⟩ := s
  rcases h.row.2 with ⟨hv, hn⟩ | ⟨g, cap, cur, hv, _, hb, hle, hm, hs, ht⟩
  · simp only [Sl.v, Value.slice.injEq] at hv
    obtain ⟨rfl, rfl, rfl⟩ := hv
    exact .inl ⟨rfl, List.eq_nil_of_length_eq_zero (by simpa using h.row.1)⟩
  · simp only [Sl.v, Value.slice.injEq] at hv
    obtain ⟨rfl, _, rfl⟩ := hv
    exact .inr ⟨g, cur, rfl, hb, hle, hm, hs, ht⟩
theorem Own.mk' {g : Nat} {cur : Array Value} (h1 : s.a = some ⟨g, 0, none⟩) (h2 : Blk w g e cur) (h3 : s.len ≤ s.cap) (h4 : s.cap ≤ maxLen) (h5 : cur.size = s.cap * sz) (h6 : cur.toList.take (s.len * sz) = xs) : Own w e sz s xs := by
  refine ⟨⟨?_, .inr ⟨g, s.cap, cur, by rw [Sl.v, h1], Nat.zero_le _, h2, h3, h4, h5, h6⟩⟩⟩
  rw [← h6, List.length_take, Array.length_toList, h5]
  exact Nat.min_eq_left (Nat.mul_le_mul_right _ h3)
theorem Own.keep (h : Own w e sz s xs) (ho : Only F w w') (hF : ∀ b, s.blk = some b → ¬ F b) : Own w' e sz s xs := by
  rcases h.form with ⟨rfl, rfl⟩ | ⟨g, cur, h1, h2, h3, h4, h5, h6⟩
  · exact Own.nil _ _ _
  · exact Own.mk' h1 (h2.keep ho (hF g (by simp [Sl.blk, h1]))) h3 h4 h5 h6
theorem Own.keepQ (h : Own w e sz s xs) (ho : Quiet w w') : Own w' e sz s xs := h.keep ho (fun _ _ => id)
theorem Own.lt (h : Own w e sz s xs) {b : Nat} (hb : s.blk = some b) : b < w.heap.size := by
  rcases h.form with ⟨rfl, rfl⟩ | ⟨g, cur, h1, h2, _⟩
  · simp [Sl.blk, Sl.nil] at hb
  · simp [Sl.blk, h1] at hb
    subst hb
    exact h2.lt
theorem Own.ne_blk (h : Own w e sz s xs) {b t : Nat} {cs : Array Value} (hb : Blk w b t cs) (ht : e ≠ t) : s.blk ≠ some b := by
  rcases h.form with ⟨rfl, rfl⟩ | ⟨g, cur, h1, h2, _⟩
  · simp [Sl.blk, Sl.nil]
  · intro he
    simp [Sl.blk, h1] at he
    subst he
    exact h2.ne hb ht rfl
theorem Own.ne_own {e' sz' : Nat} {s' : Sl} {xs' : List Value} (h : Own w e sz s xs) (h' : Own w e' sz' s' xs') (ht : e ≠ e') : ∀ b, s.blk = some b → s'.blk ≠ some b := by
  intro b hb
  rcases h.form with ⟨rfl, rfl⟩ | ⟨g, cur, h1, h2, _⟩
  · simp [Sl.blk, Sl.nil] at hb
  · simp [Sl.blk, h1] at hb
    subst hb
    exact h'.ne_blk h2 (fun e => ht e.symm)
theorem Own.cell (h : Own w e sz s xs) : ∀ j u, xs[j]? = some u → ∃ g, s.a = some ⟨g, 0, none⟩ ∧ w.cell? ⟨g, j, none⟩ = some u := by
  intro j u hu
  rcases h.form with ⟨rfl, rfl⟩ | ⟨g, cur, h1, h2, h3, h4, h5, h6⟩
  · simp at hu
  · refine ⟨g, h1, ?_⟩
    rw [h2.cell]
    rw [← h6, List.getElem?_take] at hu
    split at hu
    · simpa using hu
    · cases hu
end

/-! ### cells of a list of elements -/
theorem flat_get {α : Type} {c : α → List Value} {sz : Nat} (hc : ∀ x, (c x).length = sz) : ∀ (l : List α) (i : Nat) (x : α), l[i]? = some x → ∀ j u, (c x)[j]? = some u → (l.flatMap c)[i * sz + j]? = some u
  | [], i, x, h, _, _, _ => by simp at h
  | y :: l, 0, x, h, j, u, hu => by
    simp at h
    subst h
    have hj : j < (c y).length := (List.getElem?_eq_some_iff.1 hu).1
    simp only [List.flatMap_cons, Nat.zero_mul, Nat.zero_add]
    rw [List.getElem?_append_left hj]
    exact hu
  | y :: l, i + 1, x, h, j, u, hu => by
    have ih := flat_get hc l i x (by simpa using h) j u hu
    simp only [List.flatMap_cons]
    rw [List.getElem?_append_right (by rw [hc, Nat.succ_mul]; omega), hc]
    rw [show (i + 1) * sz + j - sz = i * sz + j by rw [Nat.succ_mul]; omega]
    exact ih
theorem flat_len {α : Type} {c : α → List Value} {sz : Nat} (hc : ∀ x, (c x).length = sz) : ∀ (l : List α), (l.flatMap c).length = l.length * sz
  | [] => by simp
  | y :: l => by simp [flat_len hc l, hc, Nat.succ_mul, Nat.add_comm]
theorem Own.rd {α : Type} {w : World} {e sz : Nat} {s : Sl} {c : α → List Value} {l : List α} (h : Own w e sz s (l.flatMap c)) (hc : ∀ x, (c x).length = sz) (hs : 0 < sz) : Rd w c sz s l := by
  refine ⟨?_, fun i x hx => ?_⟩
  · have := h.len
    rw [flat_len hc] at this
    exact (Nat.eq_of_mul_eq_mul_right hs this).symm
  · have hpos : 0 < (c x).length := by rw [hc]; exact hs
    obtain ⟨g, hg, _⟩ := h.cell (i * sz + 0) ((c x)[0]) (flat_get hc l i x hx 0 _ (List.getElem?_eq_getElem hpos))
    refine ⟨⟨g, 0, none⟩, hg, fun j u hu => ?_⟩
    obtain ⟨g', hg', h1⟩ := h.cell (i * sz + j) u (flat_get hc l i x hx j u hu)
    rw [hg] at hg'
    injection hg' with hg'
    injection hg' with hg'
    subst hg'
    rw [mk_add, mk_add, Nat.zero_add]
    exact h1

theorem flat_set {α : Type} {c : α → List Value} {sz : Nat} (hc : ∀ x, (c x).length = sz) : ∀ (l : List α) (i : Nat) (x y : α) (j : Nat) (u : Value), l[i]? = some x → c y = (c x).set j u → j < sz →
    (l.flatMap c).set (i * sz + j) u = (l.set i y).flatMap c
  | [], i, x, y, j, u, h, _, _ => by simp at h
  | z :: l, 0, x, y, j, u, h, hy, hj => by
    simp at h
    subst h
    simp only [List.flatMap_cons, Nat.zero_mul, Nat.zero_add, List.set_cons_zero]
    rw [List.set_append_left _ _ (by rw [hc]; exact hj), hy]
  | z :: l, i + 1, x, y, j, u, h, hy, hj => by
    have ih := flat_set hc l i x y j u (by simpa using h) hy hj
    simp only [List.flatMap_cons, List.set_cons_succ]
    rw [List.set_append_right _ _ (by rw [hc, Nat.succ_mul]; omega), hc]
    rw [show (i + 1) * sz + j - sz = i * sz + j by rw [Nat.succ_mul]; omega, ih]
theorem splice_one (cs : Array Value) (i : Nat) (u : Value) : splice cs i [u] = cs.setIfInBounds i u := rfl
/-- one cell of an element written -/
theorem Own.set {α : Type} {w : World} {e sz : Nat} {s : Sl} {c : α → List Value} {l : List α} {i : Int} {x y : α} {j : Nat} {u : Value} {K : World → Prop} (h : Own w e sz s (l.flatMap c)) (hc : ∀ x, (c x).length = sz)
    (h0 : 0 ≤ i) (hx : l[i.toNat]? = some x) (hy : c y = (c x).set j u) (hj : j < sz)
    (k : ∀ w', Own w' e sz s ((l.set i.toNat y).flatMap c) → Only (fun b => s.blk = some b) w w' → w'.heap.size = w.heap.size → K w') : ix s i sz fun p => st (p.add j) [u] w K := by
  have hil : i.toNat < l.length := (List.getElem?_eq_some_iff.1 hx).1
  have hlen := h.len
  rw [flat_len hc] at hlen
  have hl : s.len = l.length := (Nat.eq_of_mul_eq_mul_right (by omega) hlen).symm
  rcases h.form with ⟨rfl, e0⟩ | ⟨g, cur, h1, h2, h3, h4, h5, h6⟩
  · simp [Sl.nil] at hl
    omega
  · have hin : i.toNat * sz + j < s.len * sz := by
      have : (i.toNat + 1) * sz ≤ s.len * sz := Nat.mul_le_mul_right _ (by omega)
      rw [Nat.succ_mul] at this
      omega
    have hcap : s.len * sz ≤ s.cap * sz := Nat.mul_le_mul_right _ h3
    refine ⟨⟨h0, by omega⟩, ⟨g, 0, none⟩, h1, ?_⟩
    rw [mk_add]
    refine h2.st (by simp; omega) fun w' hb hon hsz => k w' ?_ (hon.mono fun b _ e => by simp [Sl.blk, h1, e]) hsz
    refine Own.mk' h1 hb h3 h4 (by simp [splice_one, h5]) ?_
    rw [splice_one, Array.toList_setIfInBounds, List.take_set, h6, Nat.zero_add]
    exact flat_set hc l _ x y j u hx hy hj
theorem Own.set0 {α : Type} {w : World} {e sz : Nat} {s : Sl} {c : α → List Value} {l : List α} {i : Int} {x y : α} {u : Value} {K : World → Prop} (h : Own w e sz s (l.flatMap c)) (hc : ∀ x, (c x).length = sz)
    (h0 : 0 ≤ i) (hx : l[i.toNat]? = some x) (hy : c y = (c x).set 0 u) (hj : 0 < sz)
    (k : ∀ w', Own w' e sz s ((l.set i.toNat y).flatMap c) → Only (fun b => s.blk = some b) w w' → w'.heap.size = w.heap.size → K w') : ix s i sz fun p => st p [u] w K := by
  have := h.set (j := 0) hc h0 hx hy hj k
  simpa only [add_zero'] using this

/-! ### append of one element -/
def appOK (P : Program) (t e sz bytes : Nat) : Bool := match P.underlying t with
  | some (.slice e') => decide (e' = e) && match P.info? e with
    | some i => decide (i.size = sz) && decide (i.bytes = bytes) && decide (0 < sz) && match i.zero with
      | some z => decide (z.cells.size = sz)
      | none => false
    | none => false
  | _ => false
theorem appOK.out {P : Program} {t e sz bytes : Nat} (h : appOK P t e sz bytes = true) : ∃ i z, P.underlying t = some (.slice e) ∧ P.info? e = some i ∧ i.zero = some z ∧ i.size = sz ∧ i.bytes = bytes ∧ z.cells.size = sz ∧ 0 < sz := by
  unfold appOK at h
  cases hu : P.underlying t with
  | none => simp [hu] at h
  | some d =>
    cases d <;> simp [hu] at h
    rename_i e'
    obtain ⟨rfl, h⟩ := h
    cases hi : P.info? e' with
    | none => simp [hi] at h
    | some i =>
      simp only [hi] at h
      cases hz : i.zero with
      | none => simp [hz] at h
      | some z =>
        simp only [hz, Bool.and_eq_true, decide_eq_true_eq] at h
        exact ⟨i, z, rfl, rfl, hz, h.1.1.1, h.1.1.2, h.2, h.1.2⟩
theorem ownsRow_sl {w : World} {e sz : Nat} {v : Value} {n : Nat} {xs : List Value} (h : w.ownsRow 0 e sz v n xs) : ∃ s : Sl, v = s.v ∧ s.len = n ∧ Own w e sz s xs := by
  obtain ⟨h1, h2⟩ := h
  rcases h2 with ⟨rfl, rfl⟩ | ⟨g, cap, cur, rfl, hr⟩
  · exact ⟨Sl.nil, rfl, rfl, ⟨h1, .inl ⟨rfl, rfl⟩⟩⟩
  · exact ⟨⟨some ⟨g, 0, none⟩, n, cap⟩, rfl, rfl, ⟨h1, .inr ⟨g, cap, cur, rfl, hr⟩⟩⟩
/-- a source of cells appended to a row of the call's own -/
theorem Own.append {P : Program} {w : World} {t ty e sz bytes : Nat} {s u : Sl} {xs news : List Value} {K : Sl → World → Prop} (hok : appOK P t e sz bytes = true) (h : Own w e sz s xs)
    (hu : ∃ ad, u.a = some ad ∧ AtC w ad news) (hn : news.length = u.len * sz) (h1 : news.all Value.oneCell' = true) (h63 : s.len + u.len ≤ maxLen) (hb : (s.len + u.len) * bytes ≤ 140737488355328)
    (k : ∀ r w', Own w' e sz r (xs ++ news) → r.len = s.len + u.len → Only (fun b => s.blk = some b) w w' → (r.blk = s.blk ∨ r.blk = some w.heap.size) → K r w') :
    rn P (Builtin.append_ #[t, t] ty #[Sl.v s, Sl.v u]) Sl.v w K := by
  obtain ⟨i, z, h2, h3, h4, h5, h6, h7, h8⟩ := appOK.out hok
  obtain ⟨ad, ha, hat⟩ := hu
  obtain ⟨v', w', hr, ho, hg, _, hbk⟩ := run_append_own_at (P := P) w 0 t ty e i z sz bytes h2 h3 h4 h5 h6 h7 h8 s.v s.len xs h.row ad u.len u.cap news hn hat (ones h1) h63 hb (Nat.zero_le _)
  obtain ⟨r, rfl, hrl, hown⟩ := ownsRow_sl ho
  refine ⟨r, w', by rw [← hr]; simp [Sl.v, ha], k r w' hown hrl ?_ ?_⟩
  · have := Only.grown hg
    rwa [Sl.own_blk] at this
  · rwa [Sl.own_blk, Sl.own_blk] at hbk
/-- 'append(s, x)' -/
theorem Own.push {P : Program} {w : World} {t ty e sz bytes : Nat} {s : Sl} {xs news : List Value} {K : Sl → World → Prop} (hok : appOK P t e sz bytes = true) (h : Own w e sz s xs)
    (hn : news.length = sz) (h1 : news.all Value.oneCell' = true) (h63 : s.len + 1 ≤ maxLen) (hb : (s.len + 1) * bytes ≤ 140737488355328)
    (k : ∀ r w', Own w' e sz r (xs ++ news) → r.len = s.len + 1 → Only (fun b => s.blk = some b) w w' → (r.blk = s.blk ∨ ∃ b, r.blk = some b ∧ w.heap.size ≤ b) → K r w') :
    nw e news.toArray w fun b w1 => rn P (Builtin.append_ #[t, t] ty #[Sl.v s, Sl.v (⟨some ⟨b, 0, none⟩, 1, 1⟩ : Sl)]) Sl.v w1 K := by
  refine nw_ fun w1 hB hq hsz => ?_
  refine Own.append hok (h.keepQ hq) ⟨_, rfl, fun j u hu => by rw [mk_add, hB.cell]; simpa using hu⟩ (by simpa using hn) h1 h63 hb fun r w' ho hl hon hbk => ?_
  refine k r w' ho hl ((hq.trans hon).mono fun b _ e => e.elim False.elim id) (hbk.imp id fun e => ⟨_, e, by omega⟩)

theorem nn_ {a : Addr} {K : Addr → Prop} (k : K a) : nn (some a) K := ⟨a, rfl, k⟩
/-- a step of an object whose blocks are F, then F' -/
structure Stp (F : Nat → Prop) (w : World) (F' : Nat → Prop) (w' : World) : Prop where
  only : Only F w w'
  sub : ∀ b, F' b → F b ∨ (w.heap.size ≤ b ∧ b < w'.heap.size)
theorem Stp.refl (F : Nat → Prop) (w : World) : Stp F w F w := ⟨Only.refl _ w, fun _ => .inl⟩
theorem Stp.quiet {F : Nat → Prop} {w w' : World} (h : Quiet w w') : Stp F w F w' := ⟨h.mono fun _ _ e => e.elim, fun _ => .inl⟩
theorem Stp.trans {F F' F'' : Nat → Prop} {w w' w'' : World} (h : Stp F w F' w') (k : Stp F' w' F'' w'') : Stp F w F'' w'' := by
  have s1 := h.only.size
  have s2 := k.only.size
  refine ⟨h.only.then_ k.only fun b hb e => ?_, fun b hb => ?_⟩
  · rcases h.sub b e with e | e
    · exact e
    · omega
  · rcases k.sub b hb with e | e
    · rcases h.sub b e with e | e
      · exact .inl e
      · exact .inr ⟨e.1, by omega⟩
    · exact .inr ⟨by omega, e.2⟩
theorem Stp.more {F F' G : Nat → Prop} {w w' : World} (h : Stp F w F' w') (hs : ∀ b, F b → G b) : Stp G w F' w' := ⟨h.only.mono fun b _ e => hs b e, fun b hb => (h.sub b hb).imp (hs b) id⟩
theorem Quiet.stp_below {F F' : Nat → Prop} {w w' : World} {B : Nat} (h : Stp F w F' w') (hF : ∀ b, F b → B ≤ b) (hB : B ≤ w.heap.size) : Below B w w' := h.only.below hB hF

/-! ### numbers -/
theorem w64 {x : Int} (h : -9223372036854775808 ≤ x) (h' : x ≤ 9223372036854775807) : IntKind.i64.wrap x = x := by
  rw [IntKind.wrap_i64]
  omega
end Go.Dec
