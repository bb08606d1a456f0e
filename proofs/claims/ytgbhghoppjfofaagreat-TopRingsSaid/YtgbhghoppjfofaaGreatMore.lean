/-
  A whole slice appended; maps of the call's own. Over any program.
-/
import Derived.Test.YtgbhghoppjfofaaGreatRaw
import Derived.MapKept
import Derived.Carry
namespace Go.Dec
open Go.RowKit Go.MapKept

/-! ### append of a whole slice -/
theorem flat_inv {α : Type} {c : α → List Value} {sz : Nat} (hc : ∀ x, (c x).length = sz) (h0 : 0 < sz) : ∀ (l : List α) (j : Nat) (u : Value), (l.flatMap c)[j]? = some u → ∃ x, l[j / sz]? = some x ∧ (c x)[j % sz]? = some u
  | [], j, u, h => by simp at h
  | y :: l, j, u, h => by
    rw [List.flatMap_cons] at h
    by_cases hj : j < sz
    · rw [List.getElem?_append_left (by rw [hc]; exact hj)] at h
      exact ⟨y, by rw [Nat.div_eq_of_lt hj]; rfl, by rw [Nat.mod_eq_of_lt hj]; exact h⟩
    · rw [List.getElem?_append_right (by rw [hc]; omega), hc] at h
      obtain ⟨x, h1, h2⟩ := flat_inv hc h0 l (j - sz) u h
      have hge : sz ≤ j := by omega
      refine ⟨x, ?_, ?_⟩
      · rw [Nat.div_eq_sub_div h0 hge]
        exact h1
      · rw [Nat.mod_eq_sub_mod hge]
        exact h2
theorem Rd.atC {α : Type} {w : World} {c : α → List Value} {sz : Nat} {s : Sl} {l : List α} {ad : Addr} (h : Rd w c sz s l) (hc : ∀ x, (c x).length = sz) (h0 : 0 < sz) (ha : s.a = some ad) : AtC w ad (l.flatMap c) := by
  intro j u hu
  obtain ⟨x, h1, h2⟩ := flat_inv hc h0 l j u hu
  obtain ⟨ad', e, h3⟩ := h.2 _ x h1
  rw [ha] at e
  injection e with e
  subst e
  have := h3 _ u h2
  rwa [add_add', Nat.mul_comm, Nat.div_add_mod] at this
theorem all_flat {α : Type} {c : α → List Value} (h1 : ∀ x, (c x).all Value.oneCell' = true) (l : List α) : (l.flatMap c).all Value.oneCell' = true := by
  rw [List.all_eq_true]
  intro u hu
  obtain ⟨x, _, hx⟩ := List.mem_flatMap.1 hu
  exact List.all_eq_true.1 (h1 x) u hx
theorem run_append_none {P : Program} {w : World} {t ty e sz bytes : Nat} {s : Sl} {xs : List Value} (hok : appOK P t e sz bytes = true) (h : Own w e sz s xs) (c : Nat) :
    (Builtin.append_ #[t, t] ty #[Sl.v s, .slice none 0 c]).run P w = .ok s.v w := by
  obtain ⟨i, z, h2, h3, h4, h5, h6, h7, h8⟩ := appOK.out hok
  have hle : s.len ≤ s.cap := by
    rcases h.form with ⟨e, _⟩ | ⟨_, _, _, _, e, _⟩
    · rw [e]; exact Nat.le_refl _
    · exact e
  obtain ⟨a, n, cp⟩ := s
  cases a <;> simp [Sl.v, Builtin.append_, run_underlying h2, sizeOf, typeInfo, h3, Builtin.lenOf, Builtin.firstCells, show n ≤ cp from hle, storeCells]
theorem Rd.zero {α : Type} {w : World} {c : α → List Value} {sz : Nat} {s : Sl} {l : List α} (h : Rd w c sz s l) (ha : s.a = none) : l = [] ∧ s.len = 0 := by
  cases l with
  | nil => exact ⟨rfl, h.1⟩
  | cons x l =>
    obtain ⟨ad, e, _⟩ := h.2 0 x rfl
    rw [ha] at e
    cases e
theorem OwnF.app {P : Program} {α : Type} {w : World} {F : Nat → Prop} {t ty e sz bytes : Nat} {s u : Sl} {xs : List Value} {c : α → List Value} {l : List α} {K : Sl → World → Prop} (hok : appOK P t e sz bytes = true) (h : OwnF w F e sz s xs)
    (hu : Rd w c sz u l) (hc : ∀ x, (c x).length = sz) (h0 : 0 < sz) (h1 : ∀ x, (c x).all Value.oneCell' = true) (h63 : s.len + l.length ≤ maxLen) (hb : (s.len + l.length) * bytes ≤ 140737488355328)
    (k : ∀ r w' F', OwnF w' F' e sz r (xs ++ l.flatMap c) → r.len = s.len + l.length → Stp F w F' w' → K r w') :
    rn P (Builtin.append_ #[t, t] ty #[Sl.v s, Sl.v u]) Sl.v w K := by
  have hul := hu.len
  cases ha : u.a with
  | none =>
    obtain ⟨rfl, hu0⟩ := hu.zero ha
    refine ⟨s, w, ?_, k s w F (by simpa using h) (by simp) (Stp.refl _ _)⟩
    have := run_append_none (ty := ty) hok h.own u.cap
    rw [← this]
    simp [Sl.v, ha, hu0]
  | some ad =>
    refine Own.append hok h.own ⟨ad, ha, hu.atC hc h0 ha⟩ (by rw [flat_len hc, hul]) (all_flat h1 l) (by rw [hul]; exact h63) (by rw [hul]; exact hb) fun r w' ho hl hon hbk => ?_
    refine k r w' (fun b => F b ∨ (w.heap.size ≤ b ∧ b < w'.heap.size)) ⟨ho, fun b hb => ?_⟩ (by rw [hl, hul]) ⟨hon.mono fun b _ e => h.blk b e, fun b e => e⟩
    rcases hbk with e | e
    · exact .inl (h.blk b (by rw [← e]; exact hb))
    · rw [hb] at e
      injection e with e
      subst e
      exact .inr ⟨Nat.le_refl _, ho.lt hb⟩
/-- 'append([]T{}, u...)' -/
theorem rn_copy {P : Program} {α : Type} {w : World} {t ty e sz bytes : Nat} {u : Sl} {c : α → List Value} {l : List α} {K : Sl → World → Prop} (hok : appOK P t e sz bytes = true)
    (hu : Rd w c sz u l) (hc : ∀ x, (c x).length = sz) (h0 : 0 < sz) (h1 : ∀ x, (c x).all Value.oneCell' = true) (h63 : l.length ≤ maxLen) (hb : l.length * bytes ≤ 140737488355328)
    (k : ∀ r w' F, OwnF w' F e sz r (l.flatMap c) → r.len = l.length → Fresh w w' F → K r w') :
    nw e #[] w fun b w1 => rn P (Builtin.append_ #[t, t] ty #[Sl.v (⟨some ⟨b, 0, none⟩, 0, 0⟩ : Sl), Sl.v u]) Sl.v w1 K := by
  refine nwL fun b w1 hB hq hge hsz hlt => ?_
  have ho : OwnF w1 (fun x => x = b) e sz (⟨some ⟨b, 0, none⟩, 0, 0⟩ : Sl) [] := ⟨Own.mk' rfl hB (Nat.le_refl _) (Nat.zero_le _) (by simp) (by simp), fun x hx => by simpa [Sl.blk] using hx.symm⟩
  have hf : Fresh w w1 (fun x => x = b) := ⟨hq, fun x hx => by subst hx; exact ⟨hge, hlt⟩⟩
  refine ho.app hok (hu.keepQ hq) hc h0 h1 (by simpa using h63) (by simpa using hb) fun r w' F' h2 h3 h4 => ?_
  exact k r w' F' (by simpa using h2) (by simpa using h3) (hf.stp h4)

/-! ### parts of a slice -/
theorem rn_sliced {P : Program} {α : Type} {w : World} {t e sz bytes : Nat} {s : Sl} {c : α → List Value} {L : List α} {lo hi : Option Value} {l h : Nat} {K : Sl → World → Prop} (hok : appOK P t e sz bytes = true) (hr : Rd w c sz s L) (hc : s.len ≤ s.cap) (hlh : l ≤ h) (hh : h ≤ L.length)
    (hrun : (Instr.slice t s.v lo hi none).run P w = ((sizeOf (P.elem t)).run P w).andThen fun z w => .ok (sliced s.a l h s.cap z) w)
    (k : ∀ r, Rd w c sz r ((L.take h).drop l) → r.len ≤ r.cap → (∀ ad', r.a = some ad' → ∃ ad, s.a = some ad ∧ ad'.block = ad.block) → K r w) : rn P (Instr.sliceAt t s.v lo hi none) (fun r => Sl.v r) w K := by
  obtain ⟨i, z, h2, h3, h4, h5, h6, h7, h8⟩ := appOK.out hok
  have he := elem_of h2
  have hl := hr.len
  have hs : (sizeOf (P.elem t)).run P w = .ok sz w := by rw [he]; simp [sizeOf, typeInfo, h3, h5]
  rw [hs] at hrun
  refine ⟨⟨if s.cap = l then s.a else s.a.map (·.add (l * sz)), h - l, s.cap - l⟩, w, ?_, k _ ⟨?_, fun j x hx => ?_⟩ (by dsimp only; omega) fun ad' had => ?_⟩
  · rw [run_sliceAt_slice (h := by rw [he]; exact h2), hrun]
    rfl
  · dsimp only
    rw [List.length_drop, List.length_take]
    omega
  · rw [List.getElem?_drop, List.getElem?_take] at hx
    split at hx
    · rename_i hlt
      obtain ⟨ad, ha, hat⟩ := hr.2 _ x hx
      refine ⟨ad.add (l * sz), ?_, ?_⟩
      · dsimp only
        rw [if_neg (by omega), ha]
        rfl
      · rw [add_add', ← Nat.add_mul]
        exact hat
    · cases hx
  · dsimp only at had
    split at had
    · exact ⟨ad', had, rfl⟩
    · obtain ⟨ad, ha, rfl⟩ := Option.map_eq_some_iff.1 had
      exact ⟨ad, ha, add_block _ _⟩
theorem rn_from {P : Program} {α : Type} {w : World} {t e sz bytes : Nat} {s : Sl} {c : α → List Value} {L : List α} {l : Int} {K : Sl → World → Prop} (hok : appOK P t e sz bytes = true) (hr : Rd w c sz s L) (hc : s.len ≤ s.cap) (h0 : 0 ≤ l) (h1 : l ≤ L.length)
    (k : ∀ r, Rd w c sz r (L.drop l.toNat) → r.len ≤ r.cap → (∀ ad', r.a = some ad' → ∃ ad, s.a = some ad ∧ ad'.block = ad.block) → K r w) : rn P (Instr.sliceAt t s.v (some (.int .i64 l)) none none) (fun r => Sl.v r) w K := by
  have hl := hr.len
  have hu : P.underlying t = some (.slice (P.elem t)) := by
    obtain ⟨i, z, h2, _⟩ := appOK.out hok
    rw [elem_of h2]
    exact h2
  refine rn_sliced hok hr hc (l := l.toNat) (h := s.len) (by omega) (by omega) ?_ fun r h1 h2 h3 => k r ?_ h2 h3
  · have := run_slice_l (w := w) t s.a s.len s.cap hu .i64 l h0 (by omega)
    exact this
  · rwa [hl, List.take_length] at h1
theorem rn_part {P : Program} {α : Type} {w : World} {t e sz bytes : Nat} {s : Sl} {c : α → List Value} {L : List α} {l h : Int} {K : Sl → World → Prop} (hok : appOK P t e sz bytes = true) (hr : Rd w c sz s L) (hc : s.len ≤ s.cap) (h0 : 0 ≤ l) (h1 : l ≤ h) (h2 : h ≤ L.length)
    (k : ∀ r, Rd w c sz r ((L.take h.toNat).drop l.toNat) → r.len ≤ r.cap → (∀ ad', r.a = some ad' → ∃ ad, s.a = some ad ∧ ad'.block = ad.block) → K r w) : rn P (Instr.sliceAt t s.v (some (.int .i64 l)) (some (.int .i64 h)) none) (fun r => Sl.v r) w K := by
  have hl := hr.len
  have hu : P.underlying t = some (.slice (P.elem t)) := by
    obtain ⟨i, z, h2, _⟩ := appOK.out hok
    rw [elem_of h2]
    exact h2
  refine rn_sliced hok hr hc (l := l.toNat) (h := h.toNat) (by omega) (by omega) ?_ k
  have := run_slice_lh (w := w) t s.a s.len s.cap hu .i64 .i64 l h h0 h1 (by omega)
  exact this
theorem OwnF.cap {w : World} {F : Nat → Prop} {e sz : Nat} {s : Sl} {xs : List Value} (h : OwnF w F e sz s xs) : s.len ≤ s.cap := by
  rcases h.own.form with ⟨e, _⟩ | ⟨_, _, _, _, e, _⟩
  · rw [e]; exact Nat.le_refl _
  · exact e

/-! ### maps -/
structure KeyOK (P : Program) (k : TypeId) {α : Type} (d : TypeDesc) (ek : α → Value) : Prop where
  chk : ∀ (w : World) (em : Bool) (x : α), (Instr.checkKey em 10000 k (ek x)).run P w = .ok () w
  find : ∀ (w : World) (x : α) (es : List MapEntry), (∀ e ∈ es, ∃ a, e.key = ek a) →
    ((Instr.findKey k (ek x) es).run P w = .ok none w ∧ ∀ e ∈ es, e.key ≠ ek x) ∨ ∃ j e, (Instr.findKey k (ek x) es).run P w = .ok (some (j, e.val)) w ∧ es[j]? = some e ∧ e.key = ek x
  stays : ∀ (w : World) (x : α), (Instr.keyThatStays (ek x) (ek x)).run P w = .ok (ek x) w
  inj : ∀ x y, ek x = ek y → x = y
theorem keyOK_of {P : Program} {k : TypeId} {α : Type} {d : TypeDesc} {ek : α → Value} (h : P.underlying k = some d) (is : ∀ x, IsKey d (ek x)) (inj : ∀ x y, ek x = ek y → x = y) : KeyOK P k d ek :=
  ⟨fun _ em x => MapKept.run_checkKey h (is x) em 9999, fun w x es hs => by
    rcases findNow_spec (is x) es 0 (fun e he => by obtain ⟨a, ea⟩ := hs e he; rw [ea]; exact is a) with ⟨h1, h2⟩ | ⟨j, e, h1, h2, h3⟩
    · exact .inl ⟨MapKept.run_findKey h h1, h2⟩
    · exact .inr ⟨j, e, by rw [MapKept.run_findKey h h1, Nat.zero_add], h2, h3⟩, fun w x => MapKept.run_keyThatStays (is x), inj⟩
theorem keyOK_int {P : Program} {k : TypeId} {q : IntKind} (h : P.underlying k = some (.int q)) : KeyOK P k (.int q) (Value.int q) := keyOK_of h (fun x => by simp [IsKey]) fun x y e => by injection e
theorem keyOK_str {P : Program} {k : TypeId} (h : P.underlying k = some .string) : KeyOK P k .string Value.string := keyOK_of h (fun x => by simp [IsKey]) fun x y e => by injection e
/-- keys of several cells -/
theorem keyOK_law {P : Program} {k : TypeId} {α : Type} {d : TypeDesc} {ek : α → Value} (L : WideMaps.KeyLaw P k) (is : ∀ x, ∃ l, keyOf P k (ek x) = some l) (inj : ∀ x y, ek x = ek y → x = y) : KeyOK P k d ek :=
  ⟨fun w em x => L.check w em (is x).choose_spec, fun w x es hs => L.find w (is x).choose_spec es fun e he => by obtain ⟨a, ea⟩ := hs e he; rw [ea]; exact is a, fun w x => L.stays w (is x).choose_spec, inj⟩

structure MpE {α β : Type} (ek : α → Value) (ev : β → Value) (es : Array MapEntry) (m : α → Option β) : Prop where
  one : ∀ (i j : Nat) (e e' : MapEntry), es[i]? = some e → es[j]? = some e' → e.key = e'.key → i = j
  fwd : ∀ (i : Nat) (e : MapEntry), es[i]? = some e → ∃ x y, e.key = ek x ∧ e.val = ev y ∧ m x = some y
  bwd : ∀ x y, m x = some y → ∃ (i : Nat) (e : MapEntry), es[i]? = some e ∧ e.key = ek x ∧ e.val = ev y
/-- block b is a map whose content is m -/
def Mp {α β : Type} (ek : α → Value) (ev : β → Value) (w : World) (b : Nat) (m : α → Option β) : Prop := ∃ es clock, w.heap[b]? = some (.map es clock) ∧ MpE ek ev es m
def mset {α β : Type} [DecidableEq α] (m : α → Option β) (x : α) (v : β) : α → Option β := fun y => if y = x then some v else m y
def mdel {α β : Type} [DecidableEq α] (m : α → Option β) (x : α) : α → Option β := fun y => if y = x then none else m y
def mnone {α β : Type} : α → Option β := fun _ => none
@[simp] theorem mset_same {α β : Type} [DecidableEq α] (m : α → Option β) (x : α) (v : β) : mset m x v x = some v := by simp [mset]
theorem mset_ne {α β : Type} [DecidableEq α] (m : α → Option β) {x y : α} (v : β) (h : y ≠ x) : mset m x v y = m y := by simp [mset, h]
@[simp] theorem mdel_same {α β : Type} [DecidableEq α] (m : α → Option β) (x : α) : mdel m x x = none := by simp [mdel]
theorem mdel_ne {α β : Type} [DecidableEq α] (m : α → Option β) {x y : α} (h : y ≠ x) : mdel m x y = m y := by simp [mdel, h]

section
variable {P : Program} {α β : Type} {ek : α → Value} {ev : β → Value} {w w' : World} {b : Nat} {m : α → Option β} {d : TypeDesc} {t k e : TypeId} {es : Array MapEntry} {clock : Nat}
theorem Mp.lt (h : Mp ek ev w b m) : b < w.heap.size := by
  obtain ⟨es, clock, h1, _⟩ := h
  exact (Array.getElem?_eq_some_iff.1 h1).1
theorem Mp.keep {F : Nat → Prop} (h : Mp ek ev w b m) (ho : Only F w w') (hF : ¬ F b) : Mp ek ev w' b m := by
  have hl := h.lt
  obtain ⟨es, clock, h1, h2⟩ := h
  exact ⟨es, clock, (ho.block b hl hF).trans h1, h2⟩
theorem Mp.keepQ (h : Mp ek ev w b m) (ho : Quiet w w') : Mp ek ev w' b m := h.keep ho id
theorem Mp.ne_own (h : Mp ek ev w b m) {e sz : Nat} {s : Sl} {xs : List Value} (ho : Own w e sz s xs) : s.blk ≠ some b := by
  obtain ⟨es, clock, h1, h2⟩ := h
  rcases ho.form with ⟨rfl, rfl⟩ | ⟨g, cur, h3, h4, _⟩
  · simp [Sl.blk, Sl.nil]
  · intro hb
    simp [Sl.blk, h3] at hb
    subst hb
    unfold Blk at h4
    rw [h4] at h1
    cases h1
theorem MpE.isKey (h : MpE ek ev es m) : ∀ x ∈ es.toList, ∃ a, x.key = ek a := fun x hx => by
  obtain ⟨i, hi, rfl⟩ := List.getElem_of_mem hx
  obtain ⟨a, y, e, _⟩ := h.fwd i es.toList[i] (by simp)
  exact ⟨a, e⟩
/-- whether a key is there, and where -/
theorem MpE.find (h : MpE ek ev es m) (K : KeyOK P k d ek) (w : World) (x : α) :
    ((Instr.findKey k (ek x) es.toList).run P w = .ok none w ∧ m x = none ∧ ∀ (i : Nat) (e : MapEntry), es[i]? = some e → e.key ≠ ek x) ∨ ∃ j e y, (Instr.findKey k (ek x) es.toList).run P w = .ok (some (j, e.val)) w ∧ es[j]? = some e ∧ e.key = ek x ∧ e.val = ev y ∧ m x = some y := by
  rcases K.find w x es.toList h.isKey with ⟨h1, h2⟩ | ⟨j, e, h1, h2, h3⟩
  · have h4 : ∀ (i : Nat) (e : MapEntry), es[i]? = some e → e.key ≠ ek x := fun i e he => h2 e (by rw [Array.mem_toList_iff]; exact Array.mem_of_getElem? he)
    refine .inl ⟨h1, ?_, h4⟩
    cases hm : m x with
    | none => rfl
    | some y =>
      obtain ⟨i, e, h5, h6, _⟩ := h.bwd x y hm
      exact absurd h6 (h4 i e h5)
  · have h2' : es[j]? = some e := by simpa using h2
    obtain ⟨a, y, e1, e2, e3⟩ := h.fwd j e h2'
    have : a = x := K.inj _ _ (e1.symm.trans h3)
    subst this
    exact .inr ⟨j, e, y, h1, h2', h3, e2, e3⟩
theorem rn_makeMap {enc : Option Nat → Value} {K : Option Nat → World → Prop} (henc : ∀ r, enc r = .map r) (hk : ∀ b w', Mp ek ev w' b (mnone : α → Option β) → Quiet w w' → w.heap.size ≤ b → b < w'.heap.size → w'.heap.size = w.heap.size + 1 → K (some b) w') : rn P (Instr.makeMap t none) enc w K := by
  refine ⟨some w.heap.size, w.alloc (.map #[] 0), by rw [henc]; rfl, hk _ _ ⟨#[], 0, (MapKept.heap_alloc w _).1, ?_⟩ (Only.alloc _ w _) (Nat.le_refl _) (by simp) (by simp)⟩
  exact ⟨fun i j e e' h => by simp at h, fun i e h => by simp at h, fun x y h => by cases h⟩
theorem run_zero_ev {z : Value} (hz : (P.info? e).bind (·.zero) = some z) : (zeroValue e).run P w = .ok z w := by
  obtain ⟨inf, hi, hzz⟩ := Option.bind_eq_some_iff.1 hz
  simp [zeroValue, typeInfo, hi, hzz]
theorem rn_look {γ : Type} {enc : γ → Value} {K : γ → World → Prop} {z : β} (x : α) (h : Mp ek ev w b m) (ht : P.underlying t = some (.map k e)) (hK : KeyOK P k d ek) (hz : (P.info? e).bind (·.zero) = some (ev z)) (r : γ)
    (he : enc r = .tuple #[ev ((m x).getD z), .bool (m x).isSome]) (hk : K r w) : rn P (Instr.lookup t (.map (some b)) (ek x) true) enc w K := by
  obtain ⟨es, clock, hb, hm⟩ := h
  refine ⟨r, w, ?_, hk⟩
  rw [he]
  have hc := hK.chk w es.isEmpty x
  rcases hm.find hK w x with ⟨h1, h2, _⟩ | ⟨j, e0, y, h1, h2, h3, h4, h5⟩
  · simp [Instr.lookup, run_underlying ht, MapKept.run_getObj_map hb, hc, h1, run_zero_ev hz, h2]
  · simp [Instr.lookup, run_underlying ht, MapKept.run_getObj_map hb, hc, h1, h5, h4]
theorem rn_look1 {γ : Type} {enc : γ → Value} {K : γ → World → Prop} {z : β} (x : α) (h : Mp ek ev w b m) (ht : P.underlying t = some (.map k e)) (hK : KeyOK P k d ek) (hz : (P.info? e).bind (·.zero) = some (ev z)) (r : γ)
    (he : enc r = ev ((m x).getD z)) (hk : K r w) : rn P (Instr.lookup t (.map (some b)) (ek x) false) enc w K := by
  obtain ⟨es, clock, hb, hm⟩ := h
  refine ⟨r, w, ?_, hk⟩
  rw [he]
  have hc := hK.chk w es.isEmpty x
  rcases hm.find hK w x with ⟨h1, h2, _⟩ | ⟨j, e0, y, h1, h2, h3, h4, h5⟩
  · simp [Instr.lookup, run_underlying ht, MapKept.run_getObj_map hb, hc, h1, run_zero_ev hz, h2]
  · simp [Instr.lookup, run_underlying ht, MapKept.run_getObj_map hb, hc, h1, h5, h4]
theorem set_obj (hb : w.heap[b]? = some (.map es clock)) (o : Obj) : ({ w with heap := w.heap.setIfInBounds b o } : World).heap[b]? = some o ∧ Only (fun x => x = b) w { w with heap := w.heap.setIfInBounds b o } ∧ ({ w with heap := w.heap.setIfInBounds b o } : World).heap.size = w.heap.size := by
  have hl := (Array.getElem?_eq_some_iff.1 hb).1
  refine ⟨by simp [hl], ⟨rfl, rfl, rfl, by simp, fun i hi hn => ?_⟩, by simp⟩
  simp [Array.getElem?_setIfInBounds]
  intro e
  exact absurd e.symm hn
theorem rn_mset [DecidableEq α] {K : World → Prop} (x : α) (v : β) (h : Mp ek ev w b m) (ht : P.underlying t = some (.map k e)) (hK : KeyOK P k d ek)
    (hk : ∀ w', Mp ek ev w' b (mset m x v) → Only (fun i => i = b) w w' → w'.heap.size = w.heap.size → K w') : rn0 P (Instr.mapUpdate t (.map (some b)) (ek x) (ev v)) w K := by
  obtain ⟨es, clock, hb, hm⟩ := h
  have hc := hK.chk w false x
  rcases hm.find hK w x with ⟨h1, h2, h6⟩ | ⟨j, e0, y, h1, h2, h3, h4, h5⟩
  · obtain ⟨a1, a2, a3⟩ := set_obj hb (.map (es.push { key := ek x, val := ev v, born := clock }) (clock + 1))
    refine ⟨_, by simp [Instr.mapUpdate, run_underlying ht, MapKept.run_getObj_map hb, hc, h1, MapKept.run_setObj_map _ hb], hk _ ⟨_, _, a1, ?_⟩ a2 a3⟩
    refine ⟨fun i j e e' hi hj hkk => ?_, fun i e hi => ?_, fun a y ha => ?_⟩
    · rw [Array.getElem?_push] at hi hj
      split at hi <;> split at hj
      · omega
      · injection hi with hi
        subst hi
        exact absurd hkk.symm (h6 j e' hj)
      · injection hj with hj
        subst hj
        exact absurd hkk (h6 i e hi)
      · exact hm.one i j e e' hi hj hkk
    · rw [Array.getElem?_push] at hi
      split at hi
      · injection hi with hi
        subst hi
        exact ⟨x, v, rfl, rfl, by simp⟩
      · obtain ⟨a, y, e1, e2, e3⟩ := hm.fwd i e hi
        refine ⟨a, y, e1, e2, ?_⟩
        rw [mset_ne]
        · exact e3
        · rintro rfl
          exact h6 i e hi e1
    · by_cases hax : a = x
      · subst hax
        rw [mset_same] at ha
        injection ha with ha
        subst ha
        exact ⟨es.size, { key := ek a, val := ev v, born := clock }, by rw [Array.getElem?_push]; simp, rfl, rfl⟩
      · rw [mset_ne _ _ hax] at ha
        obtain ⟨i, e, e1, e2, e3⟩ := hm.bwd a y ha
        have hi := (Array.getElem?_eq_some_iff.1 e1).1
        exact ⟨i, e, by rw [Array.getElem?_push, if_neg (by omega)]; exact e1, e2, e3⟩
  · obtain ⟨a1, a2, a3⟩ := set_obj hb (.map (es.modify j fun e => { e with key := ek x, val := ev v }) clock)
    have hst := hK.stays w x
    refine ⟨_, by simp [Instr.mapUpdate, run_underlying ht, MapKept.run_getObj_map hb, hc, h1, h2, h3, hst, MapKept.run_setObj_map _ hb], hk _ ⟨_, _, a1, ?_⟩ a2 a3⟩
    have get : ∀ (i : Nat) (e : MapEntry), (es.modify j fun e => { e with key := ek x, val := ev v })[i]? = some e → (i = j ∧ e = { e0 with key := ek x, val := ev v }) ∨ (i ≠ j ∧ es[i]? = some e) := fun i e hi => by
      rw [Array.getElem?_modify] at hi
      by_cases hij : j = i
      · subst hij
        rw [if_pos rfl, h2] at hi
        simp at hi
        exact .inl ⟨rfl, hi.symm⟩
      · rw [if_neg hij] at hi
        exact .inr ⟨fun e => hij e.symm, hi⟩
    refine ⟨fun i i' e e' hi hj hkk => ?_, fun i e hi => ?_, fun a y' ha => ?_⟩
    · rcases get i e hi with ⟨rfl, rfl⟩ | ⟨n1, g1⟩ <;> rcases get i' e' hj with ⟨rfl, rfl⟩ | ⟨n2, g2⟩
      · rfl
      · exact hm.one _ _ _ _ h2 g2 (h3.trans hkk)
      · exact hm.one _ _ _ _ g1 h2 (hkk.trans h3.symm)
      · exact hm.one _ _ _ _ g1 g2 hkk
    · rcases get i e hi with ⟨rfl, rfl⟩ | ⟨n1, g1⟩
      · exact ⟨x, v, rfl, rfl, by simp⟩
      · obtain ⟨a, y, e1, e2, e3⟩ := hm.fwd i e g1
        refine ⟨a, y, e1, e2, ?_⟩
        rw [mset_ne]
        · exact e3
        · rintro rfl
          exact n1 (hm.one _ _ _ _ g1 h2 (e1.trans h3.symm))
    · by_cases hax : a = x
      · subst hax
        rw [mset_same] at ha
        injection ha with ha
        subst ha
        exact ⟨j, { e0 with key := ek a, val := ev v }, by rw [Array.getElem?_modify, if_pos rfl, h2]; rfl, rfl, rfl⟩
      · rw [mset_ne _ _ hax] at ha
        obtain ⟨i, e, e1, e2, e3⟩ := hm.bwd a y' ha
        refine ⟨i, e, ?_, e2, e3⟩
        rw [Array.getElem?_modify, if_neg]
        · exact e1
        · rintro rfl
          rw [h2] at e1
          injection e1 with e1
          subst e1
          exact hax (hK.inj _ _ (e2.symm.trans h3))
theorem rn_mdel [DecidableEq α] {ty : TypeId} {enc : Unit → Value} {K : Unit → World → Prop} (henc : enc () = .tuple #[]) (x : α) (h : Mp ek ev w b m) (ht : P.underlying t = some (.map k e)) (hK : KeyOK P k d ek)
    (hk : ∀ w', Mp ek ev w' b (mdel m x) → Only (fun i => i = b) w w' → w'.heap.size = w.heap.size → K () w') : rn P (Builtin.delete_ #[t, k] ty #[.map (some b), ek x]) enc w K := by
  obtain ⟨es, clock, hb, hm⟩ := h
  have hc := hK.chk w es.isEmpty x
  rcases hm.find hK w x with ⟨h1, h2, h6⟩ | ⟨j, e0, y, h1, h2, h3, h4, h5⟩
  · obtain ⟨a1, a2, a3⟩ := set_obj hb (.map es clock)
    refine ⟨(), _, by rw [henc]; simp [Builtin.delete_, run_underlying ht, MapKept.run_getObj_map hb, hc, h1, MapKept.run_setObj_map _ hb], hk _ ⟨_, _, a1, ?_⟩ a2 a3⟩
    have : mdel m x = m := by
      funext a
      by_cases e : a = x
      · subst e; rw [mdel_same, h2]
      · rw [mdel_ne _ e]
    rw [this]
    exact hm
  · obtain ⟨a1, a2, a3⟩ := set_obj hb (.map (es.eraseIdxIfInBounds j) clock)
    have hj := (Array.getElem?_eq_some_iff.1 h2).1
    refine ⟨(), _, by rw [henc]; simp [Builtin.delete_, run_underlying ht, MapKept.run_getObj_map hb, hc, h1, MapKept.run_setObj_map _ hb], hk _ ⟨_, _, a1, ?_⟩ a2 a3⟩
    have hee : es.eraseIdxIfInBounds j = es.eraseIdx j hj := by simp [Array.eraseIdxIfInBounds, hj]
    rw [hee]
    have get : ∀ (i : Nat) (e : MapEntry), (es.eraseIdx j hj)[i]? = some e → es[if i < j then i else i + 1]? = some e := fun i e hi => by
      rw [Array.getElem?_eraseIdx] at hi
      split at hi <;> rename_i hlt <;> simp [hlt, hi]
    refine ⟨fun i i' e e' hi hi' hkk => ?_, fun i e hi => ?_, fun a y' ha => ?_⟩
    · have := hm.one _ _ e e' (get i e hi) (get i' e' hi') hkk
      split at this <;> split at this <;> omega
    · obtain ⟨a, y, e1, e2, e3⟩ := hm.fwd _ e (get i e hi)
      refine ⟨a, y, e1, e2, ?_⟩
      rw [mdel_ne]
      · exact e3
      · rintro rfl
        have := hm.one _ _ _ _ (get i e hi) h2 (e1.trans h3.symm)
        split at this <;> omega
    · have hax : a ≠ x := by
        rintro rfl
        rw [mdel_same] at ha
        cases ha
      rw [mdel_ne _ hax] at ha
      obtain ⟨i, e, e1, e2, e3⟩ := hm.bwd a y' ha
      have hij : i ≠ j := by
        rintro rfl
        rw [h2] at e1
        injection e1 with e1
        subst e1
        exact hax (hK.inj _ _ (e2.symm.trans h3))
      by_cases hlt : i < j
      · exact ⟨i, e, by rw [Array.getElem?_eraseIdx, if_pos hlt]; exact e1, e2, e3⟩
      · exact ⟨i - 1, e, by rw [Array.getElem?_eraseIdx, if_neg (by omega), show i - 1 + 1 = i by omega]; exact e1, e2, e3⟩
end
end Go.Dec
