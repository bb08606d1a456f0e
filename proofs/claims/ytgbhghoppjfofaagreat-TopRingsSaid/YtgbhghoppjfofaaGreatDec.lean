/-
  A layer of my own over the kit's walk rules: a frame is a function 'Env', a piece of code has a rule for each operation, and each rule takes a piece of a plain formula
  (what must hold for the code to run to its end). No program in sight: everything is over any program P.
-/
import Derived.WalkKit
import Derived.WalkLawsBesides
import Derived.Deep.LoopGhost
import Derived.OrdersHeld
import Derived.Maps.AppendAt
namespace Go.Dec
open Go.RowKit

abbrev Env := Nat → Value
def upd (ρ : Env) (d : Nat) (v : Value) : Env := fun n => bif Nat.beq n d then v else ρ n
def ev (ρ : Env) : Operand → Value
  | .tmp t => ρ t
  | .const v => v
  | .global g => .pointer (some ⟨g, 0, none⟩)
  | .func f => .func (.func f) #[] #[]

structure Rep (n : Nat) (a : Act) (ρ : Env) : Prop where
  size : a.tmps.size = n
  defers : a.defers = []
  tmp : ∀ t, a.tmps.getD t undef = ρ t

section
variable {n : Nat} {a : Act} {ρ : Env}
theorem Rep.eval (h : Rep n a ρ) : a.eval = ev ρ := by
  funext x
  cases x with
  | tmp t => exact h.tmp t
  | const v => rfl
  | global g => rfl
  | func f => rfl
theorem Rep.put (h : Rep n a ρ) {d : Nat} (hd : Nat.blt d n = true) (v : Value) : Rep n (a.put (some d) v) (upd ρ d v) := by
  have hd' : d < n := by simpa [Nat.blt_eq] using hd
  refine ⟨by simp [Act.put, h.size], h.defers, fun t => ?_⟩
  have ht := h.tmp t
  unfold upd
  simp only [Act.put, Array.getD_eq_getD_getElem?, Array.getElem?_setIfInBounds] at ht ⊢
  by_cases e : d = t
  · subst e
    simp [h.size, hd']
  · have e' : Nat.beq t d = false := by
      cases h : Nat.beq t d with
      | false => rfl
      | true => exact absurd (Nat.eq_of_beq_eq_true h) (by omega)
    simp [e, e', ht]
theorem Rep.put_none (h : Rep n a ρ) (v : Value) : Rep n (a.put none v) ρ := h
end

/-- the value that an operation's guard asks for -/
def yv (ops : Array Oper) (ρ : Env) (j : Nat) : Option Bool :=
  match (ops[j]?).bind (·.dst) with
  | some t => match ρ t with
    | .bool b => some b
    | _ => none
  | none => none

theorem Rep.yielded {n : Nat} {a : Act} {ρ : Env} (h : Rep n a ρ) (ops : Array Oper) : yielded ops a.tmps = yv ops ρ := by
  funext j
  unfold Go.yielded yv
  cases hd : (ops[j]?).bind (·.dst) with
  | none => rfl
  | some t =>
    have ht := h.tmp t
    simp only [Array.getD_eq_getD_getElem?] at ht
    simp only [Option.bind_some]
    cases hv : a.tmps[t]? with
    | none =>
      rw [hv] at ht
      simp only [Option.getD_none] at ht
      rw [← ht]
      rfl
    | some v =>
      rw [hv] at ht
      simp only [Option.getD_some] at ht
      rw [← ht]
      cases v <;> rfl

theorem Oper.wp_false {P : Program} {o : Oper} {a : Act} {w : World} {K : Act → World → Prop} {Q : Exit → Act → World → Prop}
    (h : o.wp P a w K (fun _ _ _ => False)) : o.wp P a w K Q := by
  unfold Oper.wp at *
  revert h
  generalize (execOp a.eval o).run P w = r
  intro h
  cases r with
  | ok nx w1 =>
    cases nx with
    | enter f args =>
      refine Calls.mono h fun e w'' he => ?_
      cases e with
      | returned v => exact he
      | panicked c => exact he.elim
      | outgrown => obtain ⟨_, _, he⟩ := he; exact he.elim
    | _ => exact h
  | halt hx w1 =>
    cases hx with
    | panic v => exact False.elim h
    | _ => exact False.elim h

/-! ### the rules for a list of operations -/
def wpL (P : Program) (ops : Array Oper) (K : Act → World → Prop) : List Oper → Act → World → Prop
  | [], a, w => K a w
  | o :: rest, a, w =>
    if Region.wanted o (yielded ops a.tmps) = true then o.wp P a w (wpL P ops K rest) (fun _ _ _ => False) else wpL P ops K rest (a.put o.dst undef) w

theorem wpL_mono {P : Program} {ops : Array Oper} {K K' : Act → World → Prop} (hk : ∀ a w, K a w → K' a w) : ∀ (l : List Oper) (a : Act) (w : World), wpL P ops K l a w → wpL P ops K' l a w
  | [], a, w, h => hk a w h
  | o :: rest, a, w, h => by
    unfold wpL at h ⊢
    split
    · rename_i hw
      rw [if_pos hw] at h
      exact Oper.wp_mono (wpL_mono hk rest) h
    · rename_i hw
      rw [if_neg hw] at h
      exact wpL_mono hk rest _ _ h

theorem wpL_append {P : Program} {ops : Array Oper} {K : Act → World → Prop} (r : List Oper) : ∀ (l : List Oper) (a : Act) (w : World), wpL P ops (wpL P ops K r) l a w → wpL P ops K (l ++ r) a w
  | [], a, w, h => h
  | o :: rest, a, w, h => by
    rw [List.cons_append]
    unfold wpL at h ⊢
    split
    · rename_i hw
      rw [if_pos hw] at h
      exact Oper.wp_mono (wpL_append r rest) h
    · rename_i hw
      rw [if_neg hw] at h
      exact wpL_append r rest _ _ h

theorem wpL_list {P : Program} {ops : Array Oper} {K : Act → World → Prop} {Q : Exit → Act → World → Prop} (hq : ∀ a w, K a w → Q .normal a w) :
    ∀ (l : List Oper) (a : Act) (w : World), wpL P ops K l a w → wpList P ops Q l a w
  | [], a, w, h => hq a w h
  | o :: rest, a, w, h => by
    refine wpList_step fun K' hK' => ?_
    unfold wpL at h
    split
    · rename_i hw
      rw [if_pos hw] at h
      exact Oper.wp_mono (fun a w hh => hK' _ _ (wpL_list hq rest a w hh)) (Oper.wp_false h)
    · rename_i hw
      rw [if_neg hw] at h
      exact hK' _ _ (wpL_list hq rest _ _ h)

def wpR (P : Program) (n : Nat) (ops : Array Oper) (l : List Oper) (Q : Env → World → Prop) (ρ : Env) (w : World) : Prop :=
  ∀ a, Rep n a ρ → wpL P ops (fun a w => ∃ ρ, Rep n a ρ ∧ Q ρ w) l a w
attribute [irreducible] wpR

section
variable {P : Program} {n : Nat} {ops : Array Oper} {rest : List Oper} {o : Oper} {Q : Env → World → Prop} {ρ : Env} {w w' : World} {d : Nat} {v : Value}

theorem wpR_nil (h : Q ρ w) : wpR P n ops [] Q ρ w := by
  unfold wpR
  exact fun a ha => ⟨ρ, ha, h⟩

theorem wpR_raw (hw : Region.wanted o (yv ops ρ) = true)
    (h : ∀ a, Rep n a ρ → ∀ (K : Act → World → Prop), (∀ a w ρ, Rep n a ρ → wpR P n ops rest Q ρ w → K a w) → o.wp P a w K (fun _ _ _ => False)) :
    wpR P n ops (o :: rest) Q ρ w := by
  unfold wpR
  intro a ha
  unfold wpL
  rw [ha.yielded, if_pos hw]
  refine h a ha _ fun a w ρ hr hk => ?_
  unfold wpR at hk
  exact hk a hr

theorem wpR_val (hw : Region.wanted o (yv ops ρ) = true) (hd : o.dst = some d) (hn : Nat.blt d n = true)
    (hr : (execOp (ev ρ) o).run P w = .ok (.value v) w') (k : wpR P n ops rest Q (upd ρ d v) w') : wpR P n ops (o :: rest) Q ρ w := by
  refine wpR_raw hw fun a ha K hK => ?_
  unfold Oper.wp
  rw [ha.eval, hr]
  show K (a.put o.dst v) w'
  rw [hd]
  exact hK _ _ _ (ha.put hn v) k

/-- the same, with what is given named first -/
theorem rv (v : Value) (w' : World) (hw : Region.wanted o (yv ops ρ) = true) (hd : o.dst = some d) (hn : Nat.blt d n = true)
    (hr : (execOp (ev ρ) o).run P w = .ok (.value v) w') (k : wpR P n ops rest Q (upd ρ d v) w') : wpR P n ops (o :: rest) Q ρ w := wpR_val hw hd hn hr k
theorem wpR_skp (hw : Region.wanted o (yv ops ρ) = true) (hd : o.dst = none)
    (hr : (execOp (ev ρ) o).run P w = .ok .skip w') (k : wpR P n ops rest Q ρ w') : wpR P n ops (o :: rest) Q ρ w := by
  refine wpR_raw hw fun a ha K hK => ?_
  unfold Oper.wp
  rw [ha.eval, hr]
  show K (a.put o.dst undef) w'
  rw [hd]
  exact hK _ _ _ (ha.put_none _) k

theorem wpR_enter {f : FuncId} {args : Array Value} (hw : Region.wanted o (yv ops ρ) = true) (hd : o.dst = some d) (hn : Nat.blt d n = true)
    (hr : (execOp (ev ρ) o).run P w = .ok (.enter f args) w)
    (h : Calls P f args w fun e w' => ∃ v, e = .returned v ∧ wpR P n ops rest Q (upd ρ d v) w') : wpR P n ops (o :: rest) Q ρ w := by
  refine wpR_raw hw fun a ha K hK => ?_
  unfold Oper.wp
  rw [ha.eval, hr]
  show Calls P f args w _
  refine h.mono ?_
  rintro e w' ⟨v, rfl, hk⟩
  show K (a.put o.dst v) w'
  rw [hd]
  exact hK _ _ _ (ha.put hn v) hk
theorem wpR_enter0 {f : FuncId} {args : Array Value} (hw : Region.wanted o (yv ops ρ) = true) (hd : o.dst = none)
    (hr : (execOp (ev ρ) o).run P w = .ok (.enter f args) w)
    (h : Calls P f args w fun e w' => ∃ v, e = .returned v ∧ wpR P n ops rest Q ρ w') : wpR P n ops (o :: rest) Q ρ w := by
  refine wpR_raw hw fun a ha K hK => ?_
  unfold Oper.wp
  rw [ha.eval, hr]
  show Calls P f args w _
  refine h.mono ?_
  rintro e w' ⟨v, rfl, hk⟩
  show K (a.put o.dst v) w'
  rw [hd]
  exact hK _ _ _ (ha.put_none v) hk

/-- an operation whose guard says no -/
theorem wpR_pass (hw : Region.wanted o (yv ops ρ) = false) (hd : o.dst = some d) (hn : Nat.blt d n = true)
    (k : wpR P n ops rest Q (upd ρ d undef) w) : wpR P n ops (o :: rest) Q ρ w := by
  unfold wpR at k ⊢
  intro a ha
  unfold wpL
  rw [ha.yielded, hw, hd]
  exact k _ (ha.put hn undef)
theorem wpR_pass0 (hw : Region.wanted o (yv ops ρ) = false) (hd : o.dst = none)
    (k : wpR P n ops rest Q ρ w) : wpR P n ops (o :: rest) Q ρ w := by
  unfold wpR at k ⊢
  intro a ha
  unfold wpL
  rw [ha.yielded, hw, hd]
  exact k _ (ha.put_none _)

theorem wantG {j t : Nat} {b c : Bool} (hg : o.guard = some (j, b)) (ht : (ops[j]?).bind (·.dst) = some t) (hv : ρ t = .bool c) (hc : c = b) : Region.wanted o (yv ops ρ) = true := by
  subst hc
  simp [Region.wanted, hg, yv, ht, hv]
theorem wantN {j t : Nat} {b c : Bool} (hg : o.guard = some (j, b)) (ht : (ops[j]?).bind (·.dst) = some t) (hv : ρ t = .bool c) (hc : c = !b) : Region.wanted o (yv ops ρ) = false := by
  subst hc
  cases b <;> simp [Region.wanted, hg, yv, ht, hv]
/-- the guard's own guard said no -/
theorem wantU {j t : Nat} {b : Bool} (hg : o.guard = some (j, b)) (ht : (ops[j]?).bind (·.dst) = some t) (hv : ρ t = undef) : Region.wanted o (yv ops ρ) = false := by
  simp [Region.wanted, hg, yv, ht, hv, undef]

theorem wpR_join {l : List Oper} {Q' : Env → World → Prop} (h : wpR P n ops l Q' ρ w) (hq : ∀ ρ w, Q' ρ w → Q ρ w) : wpR P n ops l Q ρ w := by
  unfold wpR at h ⊢
  exact fun a ha => wpL_mono (fun a w ⟨ρ, hr, hh⟩ => ⟨ρ, hr, hq _ _ hh⟩) l a w (h a ha)

theorem wpR_split (k : Nat) {l : List Oper} (h : wpR P n ops (l.take k) (wpR P n ops (l.drop k) Q) ρ w) : wpR P n ops l Q ρ w := by
  rw [← List.take_append_drop k l]
  unfold wpR at h ⊢
  intro a ha
  refine wpL_append _ _ a w (wpL_mono ?_ _ a w (h a ha))
  rintro a w ⟨ρ, hr, hh⟩
  exact hh a hr
end

/-! ### the rules for a piece of code -/
def wpC (P : Program) (n : Nat) (c : Code) (Q : Exit → Env → World → Prop) (ρ : Env) (w : World) : Prop :=
  ∀ a, Rep n a ρ → c.wp P (fun e a w => ∃ ρ, Rep n a ρ ∧ Q e ρ w) a w
attribute [irreducible] wpC

def thn (k : Env → World → Prop) (Q : Exit → Env → World → Prop) : Exit → Env → World → Prop
  | .normal => k
  | e => Q e
def blk (id : Nat) (Q : Exit → Env → World → Prop) : Exit → Env → World → Prop
  | .exit i => if i = id then Q .normal else Q (.exit i)
  | e => Q e

section
variable {P : Program} {n : Nat} {Q : Exit → Env → World → Prop} {ρ : Env} {w : World}

theorem wpC_seq {x y : Code} (h : wpC P n x (thn (wpC P n y Q) Q) ρ w) : wpC P n (.seq x y) Q ρ w := by
  unfold wpC at h ⊢
  intro a ha
  refine wp_seq (wp_mono (h a ha) ?_)
  rintro e a w ⟨ρ, hr, hh⟩
  cases e <;> first | exact ⟨ρ, hr, hh⟩ | skip
  exact hh a hr
theorem wpC_skip (h : Q .normal ρ w) : wpC P n .skip Q ρ w := by
  unfold wpC
  exact fun a ha => wp_skip ⟨ρ, ha, h⟩
theorem wpC_ret (h : Q .ret ρ w) : wpC P n .ret Q ρ w := by
  unfold wpC
  exact fun a ha => wp_ret ⟨ρ, ha, h⟩
theorem wpC_exit {id : Nat} (h : Q (.exit id) ρ w) : wpC P n (.exit id) Q ρ w := by
  unfold wpC
  exact fun a ha => wp_exit ⟨ρ, ha, h⟩
theorem wpC_block {id : Nat} {c : Code} (h : wpC P n c (blk id Q) ρ w) : wpC P n (.block id c) Q ρ w := by
  unfold wpC at h ⊢
  intro a ha
  refine wp_block (wp_mono (h a ha) ?_)
  rintro e a w ⟨ρ, hr, hh⟩
  cases e <;> first | exact ⟨ρ, hr, hh⟩ | skip
  rename_i i
  show if i = id then _ else _
  unfold blk at hh
  by_cases hi : i = id
  · simp only [hi, if_true] at hh ⊢
    exact ⟨ρ, hr, hh⟩
  · simp only [hi, if_false] at hh ⊢
    exact ⟨ρ, hr, hh⟩
theorem wpC_cond {c : Operand} {x y : Code} {b : Bool} (hc : ev ρ c = .bool b) (ht : b = true → wpC P n x Q ρ w) (hf : b = false → wpC P n y Q ρ w) : wpC P n (.cond c x y) Q ρ w := by
  unfold wpC at *
  intro a ha
  have e : a.eval c = .bool b := by rw [ha.eval]; exact hc
  exact wp_cond_split e (fun h => ht h a ha) (fun h => hf h a ha)
theorem wpC_region {id : Nat} {l : List Oper} (h : wpR P n l.toArray l (Q .normal) ρ w) : wpC P n (.region id l.toArray false) Q ρ w := by
  unfold wpC
  unfold wpR at h
  exact fun a ha => wp_region_list (by simpa using wpL_list (fun a w hh => hh) l a w (h a ha))
theorem wpC_mono {c : Code} {Q' : Exit → Env → World → Prop} (h : wpC P n c Q' ρ w) (hq : ∀ e ρ w, Q' e ρ w → Q e ρ w) : wpC P n c Q ρ w := by
  unfold wpC at *
  exact fun a ha => wp_mono (h a ha) fun e a w ⟨ρ, hr, hh⟩ => ⟨ρ, hr, hq _ _ _ hh⟩
theorem wpC_loop {L : Type} {c : Code} (E : L → Env → Prop) (I : L → World → Prop) (μ : L → World → Nat) (l : L) (hE : E l ρ) (hI : I l w)
    (round : ∀ l ρ w, E l ρ → I l w → wpC P n c (thn (fun ρ' w' => ∃ l', E l' ρ' ∧ I l' w' ∧ μ l' w' < μ l w) Q) ρ w) : wpC P n (.loop c) Q ρ w := by
  unfold wpC at *
  intro a ha
  refine wp_loop_ghost (fun k a w => ∃ l ρ, Rep n a ρ ∧ E l ρ ∧ I l w ∧ μ l w = k) (μ l w) ⟨l, ρ, ha, hE, hI, rfl⟩ ?_
  rintro k a w ⟨l, ρ, ha, hE, hI, rfl⟩
  refine wp_mono (round l ρ w hE hI a ha) ?_
  rintro e a w ⟨ρ, hr, hh⟩
  cases e <;> first | exact ⟨ρ, hr, hh⟩ | skip
  obtain ⟨l', h1, h2, h3⟩ := hh
  exact ⟨_, h3, l', ρ, hr, h1, h2, rfl⟩
/-- forget all of the frame but what is said -/
theorem wpC_cut {c : Code} (E : Env → Prop) (hE : E ρ) (h : ∀ ρ, E ρ → wpC P n c Q ρ w) : wpC P n c Q ρ w := h ρ hE
end

/-! ### a function -/
theorem calls_of_wpC {P : Program} {f : FuncId} {fn : Func} {c : Code} {args : Array Value} {w : World} {R : Ending → World → Prop}
    (hf : P.funcs[f]? = some fn) (hb : fn.body = some c) (n : Nat) (hn : fn.ntmps = n) (hsz : args.size ≤ n)
    (h : ∀ ρ, (∀ t, ρ t = args.getD t undef) → wpC P n c (fun e ρ w => (e = .ret ∨ e = .normal) ∧ ∀ a, Rep n a ρ → ∃ v, (results fn a.tmps).run P w = .ok v w ∧ R (.returned v) w) ρ w) : Calls P f args w R := by
  refine calls_of_wp hf hb ?_
  subst hn
  have hr : Rep fn.ntmps { tmps := args ++ Array.replicate (fn.ntmps - args.size) undef, defers := [] } (fun t => args.getD t undef) := by
    refine ⟨by simp; omega, rfl, fun t => ?_⟩
    simp only [Array.getD_eq_getD_getElem?, Array.getElem?_append]
    split
    · rfl
    · rename_i hlt
      rw [Array.getElem?_eq_none (xs := args) (by omega)]
      rw [Array.getElem?_replicate]
      split <;> rfl
  have h := h _ (fun _ => rfl)
  unfold wpC at h
  refine wp_mono (h _ hr) ?_
  rintro e a w ⟨ρ, hr, he, hh⟩
  obtain ⟨v, h1, h2⟩ := hh a hr
  rcases he with rfl | rfl
  · exact ⟨hr.defers, v, h1, h2⟩
  · exact ⟨hr.defers, v, h1, h2⟩

theorem results_rep1 {P : Program} {fn : Func} {n t : Nat} {a : Act} {ρ : Env} {w : World} {v : Value} (h : fn.results = #[.tmp t]) (ha : Rep n a ρ) (hv : ρ t = v) : (results fn a.tmps).run P w = .ok v w := by
  rw [results_tmp h, ha.tmp t, hv]
theorem results_rep0 {P : Program} {fn : Func} {n : Nat} {a : Act} {ρ : Env} {w : World} (h : fn.results = #[]) (_ : Rep n a ρ) : (results fn a.tmps).run P w = .ok (.tuple #[]) w := results_none h _ _ _
theorem results_rep2 {P : Program} {fn : Func} {n t u : Nat} {a : Act} {ρ : Env} {w : World} {x y : Value} (h : fn.results = #[.tmp t, .tmp u]) (ha : Rep n a ρ) (hx : ρ t = x) (hy : ρ u = y) : (results fn a.tmps).run P w = .ok (.tuple #[x, y]) w := by
  rw [results_tmp2 h, ha.tmp t, ha.tmp u, hx, hy]
theorem results_rep3 {P : Program} {fn : Func} {n t u s : Nat} {a : Act} {ρ : Env} {w : World} {x y z : Value} (h : fn.results = #[.tmp t, .tmp u, .tmp s]) (ha : Rep n a ρ) (hx : ρ t = x) (hy : ρ u = y) (hz : ρ s = z) : (results fn a.tmps).run P w = .ok (.tuple #[x, y, z]) w := by
  have e : (results fn a.tmps).run P w = .ok (.tuple #[a.tmps.getD t undef, a.tmps.getD u undef, a.tmps.getD s undef]) w := by simp [results, h]
  rw [e, ha.tmp t, ha.tmp u, ha.tmp s, hx, hy, hz]

/-! ### regions that draw their order -/
def aft (ops : Array Oper) (j i : Nat) : Bool := match ops[j]? with
  | some o => o.after.any fun e => Region.binds .any e && e.on == i
  | none => false

def wpJ (P : Program) (ops : Array Oper) (K : Act → World → Prop) : Nat → Array Bool → List (Nat × (World → Prop)) → Act → World → Prop
  | 0, listed, _, a, w => Region.ready .any ops listed = [] ∧ K a w
  | fuel + 1, listed, L, a, w =>
    (Region.ready .any ops listed = [] → K a w) ∧
    ∀ i ∈ Region.ready .any ops listed, wpOp P ops (fun _ _ _ => False) i (fun a' w' =>
      (∀ e ∈ L.filter (fun e => !aft ops i e.1), e.2 w') ∧ wpJ P ops K fuel (listed.setIfInBounds i true) (L.filter (fun e => !aft ops i e.1)) a' w') a w

section
variable {P : Program} {ops : Array Oper} {K : Act → World → Prop}

theorem wpOp_false {i : Nat} {K : Act → World → Prop} {a : Act} {w : World} {Q : Exit → Act → World → Prop} (h : wpOp P ops (fun _ _ _ => False) i K a w) : wpOp P ops Q i K a w := by
  unfold wpOp at *
  split
  · rename_i ho; simp only [ho] at h; exact h
  · rename_i o ho
    simp only [ho] at h
    split
    · rename_i hw
      simp only [hw, if_true] at h
      rcases h with h | ⟨_, a', w', h⟩
      · exact .inl (Oper.wp_false h)
      · exact h.elim
    · rename_i hw
      simp only [hw] at h
      exact h

theorem wpJ_sound {Q : Exit → Act → World → Prop} (hq : ∀ a w, K a w → Q .normal a w) : ∀ (fuel : Nat) (listed : Array Bool) (L : List (Nat × (World → Prop))) (a : Act) (w : World),
    wpJ P ops K fuel listed L a w → wpAny P .any ops Q fuel listed a w
  | 0, _, _, _, _, h => ⟨h.1, hq _ _ h.2⟩
  | fuel + 1, _, _, _, _, h => ⟨fun h0 => hq _ _ (h.1 h0), fun i hi => wpOp_mono (fun a' w' h' => wpJ_sound hq fuel _ _ a' w' h'.2) (wpOp_false (h.2 i hi))⟩

theorem wpJ_weaken : ∀ (fuel : Nat) (listed : Array Bool) (L L' : List (Nat × (World → Prop))) (a : Act) (w : World), (∀ e ∈ L', e ∈ L) →
    wpJ P ops K fuel listed L a w → wpJ P ops K fuel listed L' a w
  | 0, _, _, _, _, _, _, h => h
  | fuel + 1, _, L, L', _, _, hs, h => by
    refine ⟨h.1, fun i hi => wpOp_mono (fun a' w' h' => ?_) (h.2 i hi)⟩
    have hsub : ∀ e ∈ L'.filter (fun e => !aft ops i e.1), e ∈ L.filter (fun e => !aft ops i e.1) := fun e he => by
      rw [List.mem_filter] at he ⊢
      exact ⟨hs _ he.1, he.2⟩
    exact ⟨fun e he => h'.1 e (hsub e he), wpJ_weaken fuel _ _ _ a' w' hsub h'.2⟩

theorem wpJ_first {i : Nat} {oi : Oper} {v : Value} {S : World → Prop} (hi : ops[i]? = some oi) (hsel : ∀ (j : Nat) (o : Oper) cs b, ops[j]? = some o → o.op ≠ .select cs b) :
    ∀ (fuel : Nat) (listed : Array Bool) (L : List (Nat × (World → Prop))) (a : Act) (w : World),
      (∀ j oj, ops[j]? = some oj → j ≠ i → listed.getD j true = false → (∀ e ∈ oj.after, Region.binds .any e = true → e.on ≠ i) → oi.apart ops oj = true) →
      i ∈ Region.ready .any ops listed → YieldsIf P ops S oi v a → S w → (∀ e ∈ L, e.2 w) →
      wpJ P ops K fuel (listed.setIfInBounds i true) ((i, S) :: L) (a.put oi.dst v) w → wpJ P ops K (fuel + 1) listed L a w := by
  intro fuel
  induction fuel with
  | zero =>
    intro listed L a w _ hr hy hS hL H
    refine ⟨fun h => (by rw [h] at hr; cases hr), fun j hj => ?_⟩
    by_cases hji : j = i
    · subst hji
      exact hy.wpOp hi hS ⟨fun e he => hL e (List.mem_filter.1 he).1, H⟩
    · have := ready_mono hj hji
      rw [H.1] at this
      cases this
  | succ fuel ih =>
    intro listed L a w hfree hr hy hS hL H
    refine ⟨fun h => (by rw [h] at hr; cases hr), fun j hj => ?_⟩
    by_cases hji : j = i
    · subst hji
      exact hy.wpOp hi hS ⟨fun e he => hL e (List.mem_filter.1 he).1, wpJ_weaken _ _ _ _ _ _ (fun e he => List.mem_cons_of_mem _ (List.mem_filter.1 he).1) H⟩
    · have h1 := H.2 j (ready_mono hj hji)
      obtain ⟨hjun, oj, hoj, hall⟩ := mem_ready.1 hj
      have hnot : ∀ e ∈ oj.after, Region.binds .any e = true → e.on ≠ i := fun e he hb heq => by
        have h1 := hall e he hb
        have h0 := (mem_ready.1 hr).1
        rw [heq] at h1
        rcases Nat.lt_or_ge i listed.size with h' | h'
        · simp [h'] at h0 h1; rw [h0] at h1; cases h1
        · simp [Array.getElem?_eq_none h'] at h1
      have haft : aft ops j i = false := by
        unfold aft
        rw [hoj]
        simp only [Array.any_eq_false']
        intro e he
        simp only [Bool.and_eq_true, beq_iff_eq, not_and]
        exact fun hb => hnot e he hb
      have hfil : ((i, S) :: L).filter (fun e => !aft ops j e.1) = (i, S) :: L.filter (fun e => !aft ops j e.1) := by
        simp [haft]
      rw [hfil] at h1
      have h2 := wpOp_putIf (S := S) hoj (hfree j oj hoj hji hjun hnot) (fun cs b => hsel i oi cs b hi) (fun cs b => hsel j oj cs b hoj) (fun _ _ _ h => h) hy h1
      have hfree' : ∀ k ok, ops[k]? = some ok → k ≠ i → (listed.setIfInBounds j true).getD k true = false →
          (∀ e ∈ ok.after, Region.binds .any e = true → e.on ≠ i) → oi.apart ops ok = true := fun k ok hk hki hun hno => by
        refine hfree k ok hk hki ?_ hno
        by_cases hjk : j = k
        · subst hjk; exact hjun
        · rw [getD_set_ne true hjk] at hun; exact hun
      refine wpOp_mono (fun a' w' h3 => ?_) h2
      obtain ⟨hy', hS', hJ⟩ := h3
      have hL' : ∀ e ∈ L.filter (fun e => !aft ops j e.1), e.2 w' := fun e he => hS' e (List.mem_cons_of_mem _ he)
      refine ⟨hL', ih (listed.setIfInBounds j true) _ a' w' hfree' (ready_mono hr (Ne.symm hji)) hy' (hS' (i, S) List.mem_cons_self) hL' ?_⟩
      rw [Array.setIfInBounds_comm _ _ hji]
      exact hJ
end

def wpD (P : Program) (n : Nat) (ops : Array Oper) (fuel : Nat) (listed : Array Bool) (L : List (Nat × (World → Prop))) (Q : Env → World → Prop) (ρ : Env) (w : World) : Prop :=
  (∀ e ∈ L, e.2 w) → ∀ a, Rep n a ρ → wpJ P ops (fun a w => ∃ ρ, Rep n a ρ ∧ Q ρ w) fuel listed L a w
attribute [irreducible] wpD

section
variable {P : Program} {n : Nat} {ops : Array Oper} {Q : Env → World → Prop} {ρ : Env} {w w' : World} {fuel : Nat} {listed : Array Bool} {L : List (Nat × (World → Prop))} {d : Nat} {v : Value}

/-- an operation that reads, or only reckons, taken first: S is what its value hangs on -/
theorem wpD_take (i : Nat) {oi : Oper} (S : World → Prop) (hi : ops[i]? = some oi) (hs : Region.noSelect ops = true) (hf : Region.free .any ops listed i = true) (hr : (Region.ready .any ops listed).contains i = true)
    (hw : Region.wanted oi (yv ops ρ) = true) (hd : oi.dst = some d) (hn : Nat.blt d n = true)
    (hS : S w) (hrun : ∀ w, S w → (execOp (ev ρ) oi).run P w = .ok (.value v) w)
    (k : wpD P n ops fuel (listed.setIfInBounds i true) ((i, S) :: L) Q (upd ρ d v) w) : wpD P n ops (fuel + 1) listed L Q ρ w := by
  unfold wpD at k ⊢
  intro hL a ha
  have hrep := ha.put hn v
  refine wpJ_first hi (Region.noSelect_spec hs) fuel listed L a w (Region.free_spec hi hf) (by simpa using hr) (.inl ⟨by rw [ha.yielded]; exact hw, fun w hS => by rw [ha.eval]; exact hrun w hS⟩) hS hL ?_
  rw [hd]
  refine k ?_ _ hrep
  intro e he
  rcases List.mem_cons.1 he with rfl | he
  · exact hS
  · exact hL e he

/-- an operation whose guard says no, taken first -/
theorem wpD_pass (i : Nat) {oi : Oper} (hi : ops[i]? = some oi) (hs : Region.noSelect ops = true) (hf : Region.free .any ops listed i = true) (hr : (Region.ready .any ops listed).contains i = true)
    (hw : Region.wanted oi (yv ops ρ) = false) (hd : oi.dst = some d) (hn : Nat.blt d n = true)
    (k : wpD P n ops fuel (listed.setIfInBounds i true) ((i, fun _ => True) :: L) Q (upd ρ d undef) w) : wpD P n ops (fuel + 1) listed L Q ρ w := by
  unfold wpD at k ⊢
  intro hL a ha
  have hrep := ha.put hn undef
  refine wpJ_first (S := fun _ => True) hi (Region.noSelect_spec hs) fuel listed L a w (Region.free_spec hi hf) (by simpa using hr) (.inr ⟨by rw [ha.yielded]; exact hw, rfl⟩) trivial hL ?_
  rw [hd]
  refine k ?_ _ hrep
  intro e he
  rcases List.mem_cons.1 he with rfl | he
  · trivial
  · exact hL e he
theorem wpD_pass0 (i : Nat) {oi : Oper} (hi : ops[i]? = some oi) (hs : Region.noSelect ops = true) (hf : Region.free .any ops listed i = true) (hr : (Region.ready .any ops listed).contains i = true)
    (hw : Region.wanted oi (yv ops ρ) = false) (hd : oi.dst = none)
    (k : wpD P n ops fuel (listed.setIfInBounds i true) ((i, fun _ => True) :: L) Q ρ w) : wpD P n ops (fuel + 1) listed L Q ρ w := by
  unfold wpD at k ⊢
  intro hL a ha
  have hrep := ha.put_none undef
  refine wpJ_first (S := fun _ => True) hi (Region.noSelect_spec hs) fuel listed L a w (Region.free_spec hi hf) (by simpa using hr) (.inr ⟨by rw [ha.yielded]; exact hw, rfl⟩) trivial hL ?_
  rw [hd]
  refine k ?_ _ hrep
  intro e he
  rcases List.mem_cons.1 he with rfl | he
  · trivial
  · exact hL e he

/-- what must still hold behind operation i for the loads that were taken first and that may come behind it -/
def held (ops : Array Oper) (i : Nat) (L : List (Nat × (World → Prop))) (w : World) : Prop := ∀ e ∈ L.filter (fun e => !aft ops i e.1), e.2 w
def left (ops : Array Oper) (i : Nat) (L : List (Nat × (World → Prop))) : List (Nat × (World → Prop)) := L.filter (fun e => !aft ops i e.1)

/-- the operations that may come up now: each may -/
def allD (P : Program) (n : Nat) (ops : Array Oper) (fuel : Nat) (listed : Array Bool) (L : List (Nat × (World → Prop))) (Q : Env → World → Prop) (ρ : Env) (w : World) (rs : List Nat) : Prop :=
  ∀ i ∈ rs, ∀ a, Rep n a ρ → wpOp P ops (fun _ _ _ => False) i (fun a' w' => held ops i L w' ∧ ∃ ρ', Rep n a' ρ' ∧ wpD P n ops fuel (listed.setIfInBounds i true) (left ops i L) Q ρ' w') a w

theorem wpD_all {rs : List Nat} (hr : Region.ready .any ops listed = rs) (hne : rs ≠ []) (h : allD P n ops fuel listed L Q ρ w rs) : wpD P n ops (fuel + 1) listed L Q ρ w := by
  unfold wpD
  intro _ a ha
  refine ⟨fun h0 => absurd (hr ▸ h0) hne, fun i hi => ?_⟩
  refine wpOp_mono (fun a' w' h' => ?_) (h i (hr ▸ hi) a ha)
  obtain ⟨h1, ρ', hrep, h2⟩ := h'
  unfold wpD at h2
  exact ⟨h1, h2 h1 a' hrep⟩
theorem allD_nil : allD P n ops fuel listed L Q ρ w [] := fun _ h => by cases h
theorem allD_cons {i : Nat} {rs : List Nat} (h : ∀ a, Rep n a ρ → wpOp P ops (fun _ _ _ => False) i (fun a' w' => held ops i L w' ∧ ∃ ρ', Rep n a' ρ' ∧ wpD P n ops fuel (listed.setIfInBounds i true) (left ops i L) Q ρ' w') a w)
    (hs : allD P n ops fuel listed L Q ρ w rs) : allD P n ops fuel listed L Q ρ w (i :: rs) := fun j hj => by
  rcases List.mem_cons.1 hj with rfl | hj
  · exact h
  · exact hs j hj
theorem stepD_val {i : Nat} {oi : Oper} (hi : ops[i]? = some oi) (hw : Region.wanted oi (yv ops ρ) = true) (hd : oi.dst = some d) (hn : Nat.blt d n = true)
    (hr : (execOp (ev ρ) oi).run P w = .ok (.value v) w') (hh : held ops i L w') (k : wpD P n ops fuel (listed.setIfInBounds i true) (left ops i L) Q (upd ρ d v) w') :
    ∀ a, Rep n a ρ → wpOp P ops (fun _ _ _ => False) i (fun a' w' => held ops i L w' ∧ ∃ ρ', Rep n a' ρ' ∧ wpD P n ops fuel (listed.setIfInBounds i true) (left ops i L) Q ρ' w') a w := by
  intro a ha
  unfold wpOp
  rw [hi]
  simp only [ha.yielded, hw, if_true]
  refine .inl ?_
  unfold Oper.wp
  rw [ha.eval, hr]
  show held ops i L w' ∧ _
  rw [hd]
  exact ⟨hh, _, ha.put hn v, k⟩
theorem stepD_skp {i : Nat} {oi : Oper} (hi : ops[i]? = some oi) (hw : Region.wanted oi (yv ops ρ) = true) (hd : oi.dst = none)
    (hr : (execOp (ev ρ) oi).run P w = .ok .skip w') (hh : held ops i L w') (k : wpD P n ops fuel (listed.setIfInBounds i true) (left ops i L) Q ρ w') :
    ∀ a, Rep n a ρ → wpOp P ops (fun _ _ _ => False) i (fun a' w' => held ops i L w' ∧ ∃ ρ', Rep n a' ρ' ∧ wpD P n ops fuel (listed.setIfInBounds i true) (left ops i L) Q ρ' w') a w := by
  intro a ha
  unfold wpOp
  rw [hi]
  simp only [ha.yielded, hw, if_true]
  refine .inl ?_
  unfold Oper.wp
  rw [ha.eval, hr]
  show held ops i L w' ∧ _
  rw [hd]
  exact ⟨hh, _, ha.put_none _, k⟩
theorem stepD_enter {i : Nat} {oi : Oper} {f : FuncId} {args : Array Value} (hi : ops[i]? = some oi) (hw : Region.wanted oi (yv ops ρ) = true) (hd : oi.dst = some d) (hn : Nat.blt d n = true)
    (hr : (execOp (ev ρ) oi).run P w = .ok (.enter f args) w)
    (h : Calls P f args w fun e w' => ∃ v, e = .returned v ∧ held ops i L w' ∧ wpD P n ops fuel (listed.setIfInBounds i true) (left ops i L) Q (upd ρ d v) w') :
    ∀ a, Rep n a ρ → wpOp P ops (fun _ _ _ => False) i (fun a' w' => held ops i L w' ∧ ∃ ρ', Rep n a' ρ' ∧ wpD P n ops fuel (listed.setIfInBounds i true) (left ops i L) Q ρ' w') a w := by
  intro a ha
  unfold wpOp
  rw [hi]
  simp only [ha.yielded, hw, if_true]
  refine .inl ?_
  unfold Oper.wp
  rw [ha.eval, hr]
  show Calls P f args w _
  refine h.mono ?_
  rintro e w' ⟨v, rfl, hh, k⟩
  show held ops i L w' ∧ _
  rw [hd]
  exact ⟨hh, _, ha.put hn v, k⟩
theorem wpD_done (hr : Region.ready .any ops listed = []) (h : Q ρ w) : wpD P n ops fuel listed L Q ρ w := by
  unfold wpD
  intro _ a ha
  cases fuel with
  | zero => exact ⟨hr, ρ, ha, h⟩
  | succ k => exact ⟨fun _ => ⟨ρ, ha, h⟩, by rw [hr]; simp⟩
end

theorem wpC_draw {P : Program} {n : Nat} {Q : Exit → Env → World → Prop} {ρ : Env} {w : World} {id : Nat} {l : List Oper} (hm : P.follows .mixedOrders = true)
    (h : wpD P n l.toArray l.length (Array.replicate l.length false) [] (Q .normal) ρ w.drew) : wpC P n (.region id l.toArray true) Q ρ w := by
  unfold wpC
  intro a ha
  unfold wpD at h
  exact wp_region_any hm (wpJ_sound (fun a w hh => hh) _ _ _ a _ (by simpa using h (by simp) a ha))
end Go.Dec
