/-
  Objects of the call's own: footprints. Over any program.
-/
import Derived.Test.YtgbhghoppjfofaaGreatMore
import Derived.Laws.BytesArg
import Derived.Laws.Externs
namespace Go.Dec
open Go.RowKit

def gro (F : Nat → Prop) (w w' : World) : Nat → Prop := fun b => F b ∨ (w.heap.size ≤ b ∧ b < w'.heap.size)
theorem gro_lt {F : Nat → Prop} {w w' : World} (h : ∀ b, F b → b < w.heap.size) (hs : w.heap.size ≤ w'.heap.size) : ∀ b, gro F w w' b → b < w'.heap.size := fun b e => e.elim (fun e => Nat.lt_of_lt_of_le (h b e) hs) fun e => e.2
theorem Stp.gro {F G : Nat → Prop} {w w' : World} (h : Only G w w') (hs : ∀ b, G b → F b) : Stp F w (gro F w w') w' := ⟨h.mono fun b _ => hs b, fun _ h => h⟩
theorem Stp.qthen {F F' : Nat → Prop} {w w' w'' : World} (q : Quiet w w') (h : Stp F w' F' w'') : Stp F w F' w'' := (Stp.quiet q).trans h
theorem Stp.thenq {F F' : Nat → Prop} {w w' w'' : World} (h : Stp F w F' w') (q : Quiet w' w'') : Stp F w F' w'' := h.trans (Stp.quiet q)
/-- blocks that a step of F does not touch: still apart -/
theorem Stp.dj {F F' G : Nat → Prop} {w w' : World} (st : Stp F w F' w') (hG : ∀ b, G b → b < w.heap.size) (hd : ∀ b, F b → ¬ G b) : ∀ b, F' b → ¬ G b := fun b hb hg => by
  rcases st.sub b hb with e | e
  · exact hd b e hg
  · have := hG b hg
    omega
theorem Stp.lt {F F' : Nat → Prop} {w w' : World} (st : Stp F w F' w') (hF : ∀ b, F b → b < w.heap.size) : ∀ b, F' b → b < w'.heap.size := fun b hb => by
  have := st.only.size
  rcases st.sub b hb with e | e
  · have := hF b e
    omega
  · omega

/-- the objects O i, all come since W, apart, and what was before W is as it was -/
structure Objs (W w : World) (O : Nat → Nat → Prop) : Prop where
  bl : Below W.heap.size W w
  sep : Sep W.heap.size w O
theorem Objs.size {W w : World} {O : Nat → Nat → Prop} (h : Objs W w O) : W.heap.size ≤ w.heap.size := h.bl.size
theorem Objs.start (W : World) : Objs W W noO := ⟨Below.refl _ W, Sep.none _ W⟩
theorem Objs.quiet {W w w' : World} {O : Nat → Nat → Prop} (h : Objs W w O) (q : Quiet w w') : Objs W w' O := ⟨h.bl.trans (q.belowQ h.size), h.sep.size q.size⟩
theorem Objs.step {W w w' : World} {O : Nat → Nat → Prop} {F : Nat → Prop} (h : Objs W w O) (i : Nat) (st : Stp (O i) w F w') : Objs W w' (updO O i F) := ⟨h.bl.trans (h.sep.below h.size st.only), h.sep.step h.size st⟩
theorem Objs.new {W w w' : World} {O : Nat → Nat → Prop} {F : Nat → Prop} (h : Objs W w O) (i : Nat) (f : Fresh w w' F) : Objs W w' (updO O i F) := ⟨h.bl.trans (f.q.belowQ h.size), h.sep.new h.size f.q.size f.b⟩
theorem Objs.dj {W w : World} {O : Nat → Nat → Prop} (h : Objs W w O) {i j : Nat} (hij : i ≠ j) : ∀ b, O i b → ¬ O j b := h.sep.ne hij
theorem Objs.old {W w : World} {O : Nat → Nat → Prop} (h : Objs W w O) {i : Nat} {b : Nat} (hb : b < W.heap.size) : ¬ O i b := fun e => by have := h.sep.ge i b e; omega
/-- an argument, still as it was -/
theorem Objs.rd {α : Type} {W w : World} {O : Nat → Nat → Prop} {c : α → List Value} {sz : Nat} {s : Sl} {l : List α} (h : Objs W w O) (hr : Rd W c sz s l) (hb : ∀ ad, s.a = some ad → 0 < l.length → ad.block < W.heap.size) : Rd w c sz s l := hr.below h.bl hb
/-- object i given up, or never named -/
theorem Objs.congr {W w : World} {O O' : Nat → Nat → Prop} (h : Objs W w O) (e : ∀ i b, O' i b → O i b) : Objs W w O' := ⟨h.bl, ⟨fun i j b hi hj => h.sep.dis i j b (e i b hi) (e j b hj), fun i b hb => h.sep.ge i b (e i b hb), fun i b hb => h.sep.lt i b (e i b hb)⟩⟩
theorem Objs.drop {W w : World} {O : Nat → Nat → Prop} (h : Objs W w O) (i : Nat) : Objs W w (updO O i fun _ => False) := h.congr fun j b hb => by
  unfold updO at hb
  split at hb
  · exact hb.elim
  · exact hb
theorem Objs.mono {W w : World} {O : Nat → Nat → Prop} {F : Nat → Prop} (h : Objs W w O) (i : Nat) (hF : ∀ b, F b → O i b) : Objs W w (updO O i F) := h.congr fun j b hb => by
  unfold updO at hb
  split at hb
  · rename_i e
    subst e
    exact hF b hb
  · exact hb
theorem Own.objs {W w : World} {O : Nat → Nat → Prop} (h : Objs W w O) {i : Nat} {e sz : Nat} {s : Sl} {xs : List Value} (ho : OwnF w (O i) e sz s xs) {w' : World} {F : Nat → Prop} {j : Nat} (hij : i ≠ j) (st : Stp (O j) w F w') : OwnF w' (O i) e sz s xs := ho.keep st.only (h.dj hij)

theorem toNat_succ {i : Int} (h : 0 ≤ i) : (i + 1).toNat = i.toNat + 1 := by omega
/-- two objects -/
def two (F G : Nat → Prop) : Nat → Nat → Prop := fun i => if i = 0 then F else if i = 1 then G else fun _ => False
theorem two_upd0 (F G F' : Nat → Prop) : ∀ i b, two F' G i b → updO (two F G) 0 F' i b := fun i b h => by
  unfold two updO at *
  by_cases h0 : i = 0 <;> simp [h0] at h ⊢ <;> exact h
theorem two_upd1 (F G G' : Nat → Prop) : ∀ i b, two F G' i b → updO (two F G) 1 G' i b := fun i b h => by
  unfold two updO at *
  by_cases h0 : i = 0
  · simp [h0] at h ⊢
    exact h
  · by_cases h1 : i = 1 <;> simp [h0, h1] at h ⊢ <;> exact h
theorem Objs.s0 {W w w' : World} {F G F' : Nat → Prop} (h : Objs W w (two F G)) (st : Stp F w F' w') : Objs W w' (two F' G) := (h.step 0 st).congr (two_upd0 F G F')
theorem Objs.s1 {W w w' : World} {F G G' : Nat → Prop} (h : Objs W w (two F G)) (st : Stp G w G' w') : Objs W w' (two F G') := (h.step 1 st).congr (two_upd1 F G G')
theorem Objs.none2 {W w : World} (h : Objs W w noO) : Objs W w (two (fun _ => False) fun _ => False) := h.congr fun i b e => by
  unfold two at e
  split at e
  · exact e.elim
  · split at e <;> exact e.elim
theorem Objs.n0 {W w w' : World} {F G F' : Nat → Prop} (h : Objs W w (two F G)) (f : Fresh w w' F') : Objs W w' (two F' G) := (h.new 0 f).congr (two_upd0 F G F')
theorem Objs.n1 {W w w' : World} {F G G' : Nat → Prop} (h : Objs W w (two F G)) (f : Fresh w w' G') : Objs W w' (two F G') := (h.new 1 f).congr (two_upd1 F G G')
theorem Objs.d01 {W w : World} {F G : Nat → Prop} (h : Objs W w (two F G)) : ∀ b, F b → ¬ G b := fun b hf hg => by
  have := h.sep.dis 0 1 b (by unfold two; simpa using hf) (by unfold two; simpa using hg)
  cases this
theorem Objs.d10 {W w : World} {F G : Nat → Prop} (h : Objs W w (two F G)) : ∀ b, G b → ¬ F b := fun b hg hf => h.d01 b hf hg
theorem Objs.sh0 {W w : World} {F G F' : Nat → Prop} (h : Objs W w (two F G)) (hs : ∀ b, F' b → F b) : Objs W w (two F' G) := h.congr fun i b e => by
  unfold two at *
  by_cases h0 : i = 0
  · simp [h0] at e ⊢
    exact hs b e
  · simpa [h0] using e
theorem Objs.sh1 {W w : World} {F G G' : Nat → Prop} (h : Objs W w (two F G)) (hs : ∀ b, G' b → G b) : Objs W w (two F G') := h.congr fun i b e => by
  unfold two at *
  by_cases h0 : i = 0
  · simpa [h0] using e
  · by_cases h1 : i = 1
    · simp [h1] at e ⊢
      exact hs b e
    · simp [h0, h1] at e
/-- what is new goes to an object that is not written -/
theorem Fresh.grow {w w' : World} {G H : Nat → Prop} (f : Fresh w w' H) : Stp G w (fun b => G b ∨ H b) w' := ⟨f.q.mono fun _ _ e => e.elim, fun b e => e.elim .inl fun e => .inr (f.b b e)⟩
theorem OwnF.mono {w : World} {F G : Nat → Prop} {e sz : Nat} {s : Sl} {xs : List Value} (h : OwnF w F e sz s xs) (hs : ∀ b, F b → G b) : OwnF w G e sz s xs := ⟨h.own, fun b hb => hs b (h.blk b hb)⟩
theorem Mp.ne_blk {α β : Type} {ek : α → Value} {ev : β → Value} {w : World} {b b' t : Nat} {m : α → Option β} {cs : Array Value} (h : Mp ek ev w b m) (hb : Blk w b' t cs) : b' ≠ b := by
  rintro rfl
  obtain ⟨es, clock, h1, _⟩ := h
  unfold Blk at hb
  rw [hb] at h1
  cases h1
/-- a step after which an object's blocks are the same -/
theorem Objs.same {W w w' : World} {O : Nat → Nat → Prop} (h : Objs W w O) (i : Nat) (st : Stp (O i) w (O i) w') : Objs W w' O := (h.step i st).congr fun j b hb => by
  unfold updO
  split
  · rename_i e
    exact e ▸ hb
  · exact hb
theorem Objs.sub {W w : World} {O : Nat → Nat → Prop} (h : Objs W w O) (f : Nat → Nat) (hf : ∀ i j, f i = f j → i = j) : Objs W w (fun i => O (f i)) :=
  ⟨h.bl, ⟨fun i j b hi hj => hf i j (h.sep.dis _ _ b hi hj), fun i b hb => h.sep.ge _ b hb, fun i b hb => h.sep.lt _ b hb⟩⟩
def four (F G H I : Nat → Prop) : Nat → Nat → Prop := fun i => if i = 0 then F else if i = 1 then G else if i = 2 then H else if i = 3 then I else fun _ => False
theorem four_upd {F G H I : Nat → Prop} (i : Nat) (J : Nat → Prop) : ∀ j b, (four (if i = 0 then J else F) (if i = 1 then J else G) (if i = 2 then J else H) (if i = 3 then J else I)) j b → updO (four F G H I) i J j b := fun j b h => by
  unfold four updO at *
  by_cases e : j = i
  · subst e
    rw [if_pos rfl]
    by_cases h0 : j = 0
    · simpa [h0] using h
    by_cases h1 : j = 1
    · simpa [h0, h1] using h
    by_cases h2 : j = 2
    · simpa [h0, h1, h2] using h
    by_cases h3 : j = 3
    · simpa [h0, h1, h2, h3] using h
    · simp [h0, h1, h2, h3] at h
  · rw [if_neg e]
    by_cases h0 : j = 0
    · subst h0
      simpa [show ¬ i = 0 from fun e' => e e'.symm] using h
    by_cases h1 : j = 1
    · subst h1
      simpa [show ¬ i = 1 from fun e' => e e'.symm] using h
    by_cases h2 : j = 2
    · subst h2
      simpa [show ¬ i = 2 from fun e' => e e'.symm] using h
    by_cases h3 : j = 3
    · subst h3
      simpa [show ¬ i = 3 from fun e' => e e'.symm] using h
    · simp [h0, h1, h2, h3] at h
theorem Objs.none4 {W w : World} (h : Objs W w noO) : Objs W w (four (fun _ => False) (fun _ => False) (fun _ => False) fun _ => False) := h.congr fun i b e => by
  unfold four at e
  split at e
  · exact e.elim
  split at e
  · exact e.elim
  split at e
  · exact e.elim
  split at e <;> exact e.elim
theorem empty_own {w : World} {b e sz : Nat} (h : Blk w b e #[]) : OwnF w (fun x => x = b) e sz (⟨some ⟨b, 0, none⟩, 0, 0⟩ : Sl) [] :=
  ⟨Own.mk' rfl h (Nat.le_refl _) (Nat.zero_le _) (by simp) (by simp), fun x hx => by simpa [Sl.blk] using hx.symm⟩
/-- a function value that is called -/
theorem cv_mk {P : Program} {γ : Type} {f : FuncId} {fn : Func} {args ca l : List Value} {enc : γ → Value} {w : World} {K : γ → World → Prop} (hf : P.funcs[f]? = some fn) (hn : (fn.name == "runtime.NumGoroutine") = false) (hb : fn.body.isNone = false)
    (he : args ++ ca = l) (h : callC P f l.toArray enc w K) : cv P (.func (.func f) #[] ca.toArray) args enc w K := by
  refine ⟨f, #[], ca.toArray, fn, rfl, hf, hn, hb, ?_⟩
  subst he
  simpa using h
theorem Quiet.ofBelow {w w' : World} (h : Below w.heap.size w w') : Quiet w w' := Only.ofBelow h
/-- maps.clone -/
theorem cx_clone {P : Program} {α β : Type} {ek : α → Value} {ev : β → Value} {w : World} {b f t : Nat} {fn : Func} {m : α → Option β} {enc : Value → Value} {K : Value → World → Prop} (h : Mp ek ev w b m) (hf : P.funcs[f]? = some fn) (hname : (fn.name == "runtime.NumGoroutine") = false)
    (hb : fn.body.isNone = true) (hn : Extern.findNext fn = none) (he : Extern.find fn = some Extern.MapsClone.clone) (henc : ∀ v, enc v = v)
    (k : ∀ b' w', Mp ek ev w' b' m → Quiet w w' → w.heap.size ≤ b' → b' < w'.heap.size → w'.heap.size = w.heap.size + 1 → K (.iface t (.map (some b'))) w') : cx P f [.iface t (.map (some b))] enc w K := by
  obtain ⟨es, clock, h1, h2⟩ := h
  have e : Extern.MapsClone.clone #[.iface t (.map (some b))] = (getObj b >>= fun o => match o with
      | .map entries clock => (newObj (.map entries clock) >>= fun n => pure (.iface t (.map (some n))))
      | _ => stuck "maps.clone: a map expected") := rfl
  have hrun : (Extern.MapsClone.clone #[.iface t (.map (some b))]).run P w = .ok (.iface t (.map (some w.heap.size))) (w.alloc (.map es clock)) := by
    rw [e]
    simp [MapKept.run_getObj_map h1, Result.andThen, go_sem]
  refine ⟨.iface t (.map (some w.heap.size)), w.alloc (.map es clock), ?_, k _ _ ⟨es, clock, (MapKept.heap_alloc w _).1, h2⟩ (Only.alloc _ w _) (Nat.le_refl _) (by simp) (by simp)⟩
  rw [run_callFunc_extern hf hname hb hn he, show [Value.iface t (.map (some b))].toArray = #[.iface t (.map (some b))] from rfl, hrun, henc]
  rfl
theorem rn_iface {P : Program} {t k e : TypeId} {a : Option Nat} {w : World} {enc : Value → Value} {K : Value → World → Prop} (ht : P.underlying t = some (.map k e)) (henc : ∀ v, enc v = v) (hk : K (.iface t (.map a)) w) : rn P (Instr.makeInterface t (.map a)) enc w K :=
  ⟨_, w, by rw [henc]; simp [Instr.makeInterface, run_underlying ht], hk⟩
theorem rn_assert {P : Program} {t x k e : TypeId} {a : Option Nat} {w : World} {enc : Option Nat → Value} {K : Option Nat → World → Prop} (ht : P.underlying t = some (.map k e)) (henc : ∀ v, enc v = .map v) (hk : K a w) : rn P (Instr.typeAssert (.iface t (.map a)) x t false) enc w K :=
  ⟨a, w, by rw [henc]; simp [Instr.typeAssert, run_underlying ht, go_sem, Result.andThen], hk⟩
/-- a slice that is an argument: whatever the call does, it reads as it did -/
structure Arg {α : Type} (W : World) (c : α → List Value) (sz : Nat) (s : Sl) (l : List α) : Prop where
  rd : Rd W c sz s l
  bd : ∀ ad, s.a = some ad → 0 < l.length → ad.block < W.heap.size
theorem Arg.at {α : Type} {W w : World} {c : α → List Value} {sz : Nat} {s : Sl} {l : List α} (h : Arg W c sz s l) (hb : Below W.heap.size W w) : Rd w c sz s l := h.rd.below hb h.bd
theorem Arg.len {α : Type} {W : World} {c : α → List Value} {sz : Nat} {s : Sl} {l : List α} (h : Arg W c sz s l) : s.len = l.length := h.rd.len
theorem Arg.ix {α : Type} {W : World} {c : α → List Value} {sz : Nat} {s : Sl} {l : List α} {i : Int} {K : Addr → Prop} (h : Arg W c sz s l) (h0 : 0 ≤ i) (h1 : i < l.length)
    (k : ∀ p x, l[i.toNat]? = some x → (∀ w', Below W.heap.size W w' → AtC w' p (c x)) → K p) : Go.Dec.ix s i sz K := by
  refine h.rd.ix h0 h1 fun p x hx hat ⟨ad, ha, hp⟩ => k p x hx fun w' hb j u hu => ?_
  have hlt : (p.add j).block < W.heap.size := by
    rw [hp, add_block, add_block]
    exact h.bd ad ha (by omega)
  exact (hb.cell (p := p.add j) hlt).trans (hat j u hu)
/-- the same, its element known -/
theorem Arg.ixx {α : Type} {W : World} {c : α → List Value} {sz : Nat} {s : Sl} {l : List α} {i : Int} {x : α} {K : Addr → Prop} (h : Arg W c sz s l) (h0 : 0 ≤ i) (hx : l[i.toNat]? = some x)
    (k : ∀ p, (∀ w', Below W.heap.size W w' → AtC w' p (c x)) → K p) : Go.Dec.ix s i sz K := by
  have := (List.getElem?_eq_some_iff.1 hx).1
  refine h.ix h0 (by omega) fun p y hy hat => ?_
  rw [hx] at hy
  injection hy with hy
  subst hy
  exact k p hat
theorem Rd.ixx {α : Type} {w : World} {c : α → List Value} {sz : Nat} {s : Sl} {l : List α} {i : Int} {x : α} {K : Addr → Prop} (h : Rd w c sz s l) (h0 : 0 ≤ i) (hx : l[i.toNat]? = some x)
    (k : ∀ p, AtC w p (c x) → (∃ ad, s.a = some ad ∧ p = ad.add (i.toNat * sz)) → K p) : Go.Dec.ix s i sz K := by
  have := (List.getElem?_eq_some_iff.1 hx).1
  refine h.ix h0 (by omega) fun p y hy hat hp => ?_
  rw [hx] at hy
  injection hy with hy
  subst hy
  exact k p hat hp
theorem AtC.cell0 {w : World} {p : Addr} {v : Value} {r : List Value} (h : AtC w p (v :: r)) : w.cell? p = some v := by
  have := h 0 v rfl
  rwa [add_zero'] at this
theorem AtC.cj {w : World} {p : Addr} {cs : List Value} (h : AtC w p cs) {j : Nat} {v : Value} (hj : cs[j]? = some v) : w.cell? (p.add j) = some v := h j v hj
/-- an element of a row of an object's, still there behind a step of another one -/
theorem AtC.keep {F : Nat → Prop} {w w' : World} {p : Addr} {cs : List Value} (h : AtC w p cs) (ho : Only F w w') (hF : ¬ F p.block) : AtC w' p cs := fun j u hu => ho.cell (by rw [add_block]; exact hF) (h j u hu)
theorem OwnF.ixx {α : Type} {w : World} {F : Nat → Prop} {e sz : Nat} {s : Sl} {c : α → List Value} {l : List α} {i : Int} {x : α} {K : Addr → Prop} (h : OwnF w F e sz s (l.flatMap c)) (hc : ∀ x, (c x).length = sz) (hs : 0 < sz) (h0 : 0 ≤ i) (hx : l[i.toNat]? = some x)
    (k : ∀ p, AtC w p (c x) → F p.block → K p) : Go.Dec.ix s i sz K :=
  (h.rd hc hs).ixx h0 hx fun p hat ⟨ad, ha, hp⟩ => k p hat (h.blk _ (by rw [hp, add_block]; simp [Sl.blk, ha]))
end Go.Dec
