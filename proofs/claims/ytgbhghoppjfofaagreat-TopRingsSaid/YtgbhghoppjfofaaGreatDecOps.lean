/-
  Of each operation: the equation on its run. And the words of the formulas. Over any program.
-/
import Derived.Test.YtgbhghoppjfofaaGreatDec
namespace Go.Dec
open Go.RowKit

structure Sl where
  a : Option Addr
  len : Nat
  cap : Nat
def Sl.v (s : Sl) : Value := .slice s.a s.len s.cap
def Sl.nil : Sl := ⟨none, 0, 0⟩

/-! ### closed facts on types -/
def fieldOff (P : Program) (t i : Nat) : Option Nat := match P.underlying t with
  | some (.struct fs) => match fs[i]? with
    | some f => match P.info? f.type with
      | some i => if i.size = 0 then none else some f.offset
      | none => none
    | none => none
  | _ => none
def elemSize (P : Program) (t : Nat) : Option Nat := match P.underlying t with
  | some (.slice e) => (P.info? e).map (·.size)
  | _ => none
def arrElemSize (P : Program) (t : Nat) : Option (Nat × Nat) := match P.underlying t with
  | some (.array n e) => (P.info? e).map fun i => (n, i.size)
  | _ => none
def elemOfS (P : Program) (t : Nat) : Option Nat := match P.underlying t with
  | some (.slice e) => some e
  | _ => none
/-- 0: one cell; n + 1: an aggregate of n cells -/
def shapeT (P : Program) (t : Nat) : Option Nat := match P.underlying t with
  | some (.struct _) | some (.array _ _) => (P.info? t).map fun i => i.size + 1
  | some _ => some 0
  | none => none
def sizeT (P : Program) (t : Nat) : Option Nat := (P.info? t).map (·.size)
def isSliceT (P : Program) (t : Nat) : Bool := match P.underlying t with | some (.slice _) => true | _ => false
def isStrT (P : Program) (t : Nat) : Bool := match P.underlying t with | some .string => true | _ => false
def isPtrT (P : Program) (t : Nat) : Bool := match P.underlying t with | some (.pointer _) => true | _ => false
def isBoolT (P : Program) (t : Nat) : Bool := match P.underlying t with | some .bool => true | _ => false
def intKindT (P : Program) (t : Nat) : Option IntKind := match P.underlying t with | some (.int k) => some k | _ => none

/-! ### the words of the formulas -/
def beqS (a b : ByteArray) : Bool := a.toList == b.toList
theorem beqS_iff (a b : ByteArray) : beqS a b = true ↔ a = b := by
  unfold beqS
  rw [beq_iff_eq, ByteArray.toList_eq, ByteArray.toList_eq]
  obtain ⟨⟨x⟩⟩ := a
  obtain ⟨⟨y⟩⟩ := b
  simp
theorem beqS_eq (a b : ByteArray) : beqS a b = decide (a = b) := by
  rw [Bool.eq_iff_iff, beqS_iff, decide_eq_true_iff]

def nn (p : Option Addr) (K : Addr → Prop) : Prop := ∃ a, p = some a ∧ K a
def ld {α : Type} (enc : α → Value) (p : Addr) (w : World) (K : α → Prop) : Prop := ∃ x, w.cell? p = some (enc x) ∧ K x
def ix (s : Sl) (i : Int) (sz : Nat) (K : Addr → Prop) : Prop := (0 ≤ i ∧ i < s.len) ∧ ∃ a, s.a = some a ∧ K (a.add (i.toNat * sz))
def nw (t : TypeId) (cs : Array Value) (w : World) (K : Nat → World → Prop) : Prop := ∀ b w', b = w.heap.size → w' = w.alloc (.cells cs t) → K b w'
def setAll (w : World) (p : Addr) : List Value → Nat → World
  | [], _ => w
  | v :: r, i => setAll (w.setCell (p.add i) v) p r (i + 1)
def st (p : Addr) (vs : List Value) (w : World) (K : World → Prop) : Prop :=
  (∀ j, j < vs.length → (w.cell? (p.add j)).isSome = true ∧ w.frozen? (p.add j) = false) ∧ ∀ w', w' = setAll w p vs 0 → K w'
def cnd (c : Bool) (A B : Prop) : Prop := (c = true → A) ∧ (c = false → B)
def jn {α : Type} (T : (α → World → Prop) → Prop) (k : α → World → Prop) : Prop := ∃ R, T R ∧ ∀ x w, R x w → k x w
def jp {α : Type} (T : (α → Prop) → Prop) (k : α → Prop) : Prop := ∃ R, T R ∧ ∀ x, R x → k x
def lp {α : Type} (body : (α → World → Prop) → α → World → Prop) (l : α) (w : World) : Prop :=
  ∃ (I : α → World → Prop) (μ : α → World → Nat), I l w ∧ ∀ l w, I l w → body (fun l' w' => I l' w' ∧ μ l' w' < μ l w) l w
def callC {α : Type} (P : Program) (f : FuncId) (args : Array Value) (enc : α → Value) (w : World) (K : α → World → Prop) : Prop :=
  Calls P f args w fun e w' => ∃ r, e = .returned (enc r) ∧ K r w'
/-- an operation that I take raw: what its run gives -/
def rn {α : Type} (P : Program) (m : Sem Value) (enc : α → Value) (w : World) (K : α → World → Prop) : Prop := ∃ x w', m.run P w = .ok (enc x) w' ∧ K x w'
def rn0 (P : Program) (m : Sem Unit) (w : World) (K : World → Prop) : Prop := ∃ w', m.run P w = .ok () w' ∧ K w'
/-- the draw of a region -/
def tk (w : World) (K : World → Prop) : Prop := K w.drew

theorem callC.use {α : Type} {P : Program} {f : FuncId} {args : Array Value} {enc : α → Value} {w : World} {R K : α → World → Prop}
    (h : callC P f args enc w R) (hk : ∀ r w', R r w' → K r w') : callC P f args enc w K :=
  Calls.mono h fun _ w' ⟨r, he, hr⟩ => ⟨r, he, hk r w' hr⟩
theorem jn.mk {α : Type} {T : (α → World → Prop) → Prop} {k : α → World → Prop} (R : α → World → Prop) (h : T R) (hk : ∀ x w, R x w → k x w) : jn T k := ⟨R, h, hk⟩
theorem jn.in_ {α : Type} {T : (α → World → Prop) → Prop} {k : α → World → Prop} (h : T k) : jn T k := ⟨k, h, fun _ _ h => h⟩
theorem jp.mk {α : Type} {T : (α → Prop) → Prop} {k : α → Prop} (R : α → Prop) (h : T R) (hk : ∀ x, R x → k x) : jp T k := ⟨R, h, hk⟩
theorem jp.in_ {α : Type} {T : (α → Prop) → Prop} {k : α → Prop} (h : T k) : jp T k := ⟨k, h, fun _ h => h⟩
theorem jp.val {α : Type} {T : (α → Prop) → Prop} {k : α → Prop} (x : α) (h : T (fun y => y = x)) (hk : k x) : jp T k := ⟨_, h, fun _ e => e ▸ hk⟩

/-! ### joins at code, at a list of operations -/
theorem wpC_seqJ {P : Program} {n : Nat} {L : Type} (E : L → Env → Prop) (R : L → World → Prop) {x y : Code} {Q : Exit → Env → World → Prop} {ρ : Env} {w : World}
    (h : wpC P n x (thn (fun ρ w => ∃ l, E l ρ ∧ R l w) Q) ρ w) (hk : ∀ l ρ w, E l ρ → R l w → wpC P n y Q ρ w) : wpC P n (.seq x y) Q ρ w := by
  refine wpC_seq (wpC_mono h ?_)
  intro e ρ w hq
  cases e <;> first | exact hq | skip
  obtain ⟨l, h1, h2⟩ := hq
  exact hk l ρ w h1 h2
theorem wpR_joinJ {P : Program} {n : Nat} {ops l : List Oper} {L : Type} (k : Nat) (E : L → Env → Prop) (R : L → World → Prop) {Q : Env → World → Prop} {ρ : Env} {w : World}
    (h : wpR P n ops.toArray (l.take k) (fun ρ w => ∃ x, E x ρ ∧ R x w) ρ w) (hk : ∀ x ρ w, E x ρ → R x w → wpR P n ops.toArray (l.drop k) Q ρ w) : wpR P n ops.toArray l Q ρ w :=
  wpR_split k (wpR_join h fun ρ w ⟨x, h1, h2⟩ => hk x ρ w h1 h2)

theorem wpC_drawJ {P : Program} {n : Nat} {L : Type} {id : Nat} {l : List Oper} (hm : P.follows .mixedOrders = true) (E : L → Env → Prop) (R : L → World → Prop) {Q : Exit → Env → World → Prop} {ρ : Env} {w : World}
    (h : wpD P n l.toArray l.length (Array.replicate l.length false) [] (fun ρ w => ∃ x, E x ρ ∧ R x w) ρ w.drew) (hk : ∀ x ρ w, E x ρ → R x w → Q .normal ρ w) : wpC P n (.region id l.toArray true) Q ρ w := by
  refine wpC_draw hm ?_
  unfold wpD at h ⊢
  intro hL a ha
  have key : ∀ (fuel : Nat) (listed : Array Bool) (L0 : List (Nat × (World → Prop))) (a : Act) (w : World),
      wpJ P l.toArray (fun a w => ∃ ρ, Rep n a ρ ∧ ∃ x, E x ρ ∧ R x w) fuel listed L0 a w → wpJ P l.toArray (fun a w => ∃ ρ, Rep n a ρ ∧ Q .normal ρ w) fuel listed L0 a w := by
    intro fuel
    induction fuel with
    | zero => rintro listed L0 a w ⟨h1, ρ, hr, x, h2, h3⟩; exact ⟨h1, ρ, hr, hk x ρ w h2 h3⟩
    | succ fuel ih =>
      rintro listed L0 a w ⟨h1, h2⟩
      refine ⟨fun h0 => ?_, fun i hi => wpOp_mono (fun a' w' h' => ⟨h'.1, ih _ _ _ _ h'.2⟩) (h2 i hi)⟩
      obtain ⟨ρ, hr, x, h3, h4⟩ := h1 h0
      exact ⟨ρ, hr, hk x ρ w h3 h4⟩
  exact key _ _ _ _ _ (h hL a ha)
section
variable {P : Program} {n : Nat} {ops : Array Oper} {Q : Env → World → Prop} {ρ : Env} {w w' : World} {fuel : Nat} {listed : Array Bool} {L L' : List (Nat × (World → Prop))} {d : Nat} {v : Value}
theorem held_nil {w : World} : ∀ e ∈ ([] : List (Nat × (World → Prop))), e.2 w := fun _ h => by cases h
theorem held_cons {w : World} {e : Nat × (World → Prop)} {L : List (Nat × (World → Prop))} (h : e.2 w) (t : ∀ e ∈ L, e.2 w) : ∀ e' ∈ e :: L, e'.2 w := fun e' he => by
  rcases List.mem_cons.1 he with rfl | he
  · exact h
  · exact t e' he
theorem stepD_valL {i : Nat} {oi : Oper} (hi : ops[i]? = some oi) (hw : Region.wanted oi (yv ops ρ) = true) (hd : oi.dst = some d) (hn : Nat.blt d n = true)
    (hr : (execOp (ev ρ) oi).run P w = .ok (.value v) w') (hl : left ops i L = L') (hh : ∀ e ∈ L', e.2 w') (k : wpD P n ops fuel (listed.setIfInBounds i true) L' Q (upd ρ d v) w') :
    ∀ a, Rep n a ρ → wpOp P ops (fun _ _ _ => False) i (fun a' w' => held ops i L w' ∧ ∃ ρ', Rep n a' ρ' ∧ wpD P n ops fuel (listed.setIfInBounds i true) (left ops i L) Q ρ' w') a w := by
  subst hl
  exact stepD_val hi hw hd hn hr hh k
theorem stepD_skpL {i : Nat} {oi : Oper} (hi : ops[i]? = some oi) (hw : Region.wanted oi (yv ops ρ) = true) (hd : oi.dst = none)
    (hr : (execOp (ev ρ) oi).run P w = .ok .skip w') (hl : left ops i L = L') (hh : ∀ e ∈ L', e.2 w') (k : wpD P n ops fuel (listed.setIfInBounds i true) L' Q ρ w') :
    ∀ a, Rep n a ρ → wpOp P ops (fun _ _ _ => False) i (fun a' w' => held ops i L w' ∧ ∃ ρ', Rep n a' ρ' ∧ wpD P n ops fuel (listed.setIfInBounds i true) (left ops i L) Q ρ' w') a w := by
  subst hl
  exact stepD_skp hi hw hd hr hh k
theorem stepD_enterL {i : Nat} {oi : Oper} {f : FuncId} {args : Array Value} (hi : ops[i]? = some oi) (hw : Region.wanted oi (yv ops ρ) = true) (hd : oi.dst = some d) (hn : Nat.blt d n = true)
    (hr : (execOp (ev ρ) oi).run P w = .ok (.enter f args) w) (hl : left ops i L = L')
    (h : Calls P f args w fun e w' => ∃ v, e = .returned v ∧ (∀ e ∈ L', e.2 w') ∧ wpD P n ops fuel (listed.setIfInBounds i true) L' Q (upd ρ d v) w') :
    ∀ a, Rep n a ρ → wpOp P ops (fun _ _ _ => False) i (fun a' w' => held ops i L w' ∧ ∃ ρ', Rep n a' ρ' ∧ wpD P n ops fuel (listed.setIfInBounds i true) (left ops i L) Q ρ' w') a w := by
  subst hl
  exact stepD_enter hi hw hd hn hr h
end

/-! ### run equations -/
section
variable {P : Program} {ρ : Operand → Value} {o : Oper} {w : World}

theorem x_move {x : Operand} {v : Value} (ho : o.op = .move x) (hx : ρ x = v) : (execOp ρ o).run P w = .ok (.value v) w := by
  unfold execOp; rw [ho, ← hx]; rfl
theorem x_assign {x : Operand} {v : Value} (ho : o.op = .assign x) (hx : ρ x = v) : (execOp ρ o).run P w = .ok (.value v) w := by
  unfold execOp; rw [ho, ← hx]; rfl
theorem x_pickT {c x y : Operand} {b : Bool} {v : Value} (ho : o.op = .pick c x y) (hc : ρ c = .bool b) (hb : b = true) (hx : ρ x = v) : (execOp ρ o).run P w = .ok (.value v) w := by
  unfold execOp; rw [ho]; simp [hc, hb, hx, asBool]
theorem x_pickF {c x y : Operand} {b : Bool} {v : Value} (ho : o.op = .pick c x y) (hc : ρ c = .bool b) (hb : b = false) (hx : ρ y = v) : (execOp ρ o).run P w = .ok (.value v) w := by
  unfold execOp; rw [ho]; simp [hc, hb, hx, asBool]
theorem x_nilCheck {x : Operand} {p : Option Addr} {a : Addr} (ho : o.op = .nilCheck x) (hx : ρ x = .pointer p) (hp : p = some a) : (execOp ρ o).run P w = .ok (.value (.pointer (some a))) w := by
  subst hp; unfold execOp; rw [ho]; simp [hx]
theorem x_fieldAddr {s i off : Nat} {x : Operand} {p : Addr} (ho : o.op = .fieldAddr s x i) (hx : ρ x = .pointer (some p)) (hf : fieldOff P s i = some off) :
    (execOp ρ o).run P w = .ok (.value (.pointer (some (p.add off)))) w := by
  unfold fieldOff at hf
  cases hu : P.underlying s with
  | none => simp [hu] at hf
  | some d =>
    cases d <;> simp [hu] at hf
    rename_i fs
    cases hfi : fs[i]? with
    | none => simp [hfi] at hf
    | some f =>
      simp only [hfi] at hf
      cases hi : P.info? f.type with
      | none => simp [hi] at hf
      | some inf =>
        simp only [hi] at hf
        split at hf
        · cases hf
        · rename_i hz
          simp only [Option.some.injEq] at hf
          subst hf
          unfold execOp
          rw [ho]
          simp [hx, Instr.fieldAt, run_underlying hu, hfi, Instr.sureAddr, fieldPlace, sizeOf, typeInfo, hi, hz]
theorem x_load1 {t : TypeId} {x : Operand} {p : Addr} {v : Value} (ho : o.op = .load t x) (hx : ρ x = .pointer (some p)) (ht : shapeT P t = some 0) (hc : w.cell? p = some v) :
    (execOp ρ o).run P w = .ok (.value v) w := by
  have hag : (isAgg t).run P w = .ok false w := by
    unfold shapeT at ht
    cases hu : P.underlying t with
    | none => simp [hu] at ht
    | some d => cases d <;> simp [hu, Option.map_eq_some_iff] at ht <;> simp [isAgg, run_underlying hu]
  unfold execOp
  rw [ho]
  simp [hx, Instr.loadAt, Instr.sureAddr, loadVar, hag, hc]
theorem run_loadFrom {a : Addr} : ∀ (vs : List Value) (i : Nat) (acc : Array Value), (∀ j u, vs[j]? = some u → w.cell? (a.add (i + j)) = some u) →
    (loadCellsFrom a i vs.length acc).run P w = .ok (acc ++ vs.toArray) w
  | [], i, acc, _ => by simp [loadCellsFrom]
  | v :: r, i, acc, h => by
    have h0 := h 0 v rfl
    rw [Nat.add_zero] at h0
    have ih := run_loadFrom r (i + 1) (acc.push v) (fun j u hu => by
      have := h (j + 1) u (by simpa using hu)
      rwa [show i + (j + 1) = i + 1 + j by omega] at this)
    simp only [List.length_cons, loadCellsFrom]
    simp [h0, ih]
theorem x_loadN {t : TypeId} {x : Operand} {p : Addr} (vs : List Value) (ho : o.op = .load t x) (hx : ρ x = .pointer (some p)) (ht : shapeT P t = some (vs.length + 1))
    (hc : ∀ j u, vs[j]? = some u → w.cell? (p.add j) = some u) : (execOp ρ o).run P w = .ok (.value (.agg vs.toArray)) w := by
  unfold shapeT at ht
  have hl := run_loadFrom (P := P) (w := w) (a := p) vs 0 #[] (by simpa using hc)
  cases hu : P.underlying t with
  | none => simp [hu] at ht
  | some d =>
    have key : (isAgg t).run P w = .ok true w ∧ ∃ inf, P.info? t = some inf ∧ inf.size = vs.length := by
      cases d <;> simp [hu, Option.map_eq_some_iff] at ht <;> exact ⟨by simp [isAgg, run_underlying hu], ht⟩
    obtain ⟨hag, inf, hi, hsz⟩ := key
    unfold execOp
    rw [ho]
    simp [hx, Instr.loadAt, Instr.sureAddr, loadVar, hag, sizeOf, typeInfo, hi, hsz, loadCells, hl]
def CellsAt (w : World) (p : Addr) (i : Nat) (vs : List Value) : Prop := ∀ j u, vs[j]? = some u → w.cell? (p.add (i + j)) = some u
theorem CellsAt.nil {p : Addr} {i : Nat} : CellsAt w p i [] := fun j u h => by simp at h
theorem CellsAt.cons {p : Addr} {i : Nat} {v : Value} {r : List Value} (h : w.cell? (p.add i) = some v) (t : CellsAt w p (i + 1) r) : CellsAt w p i (v :: r) := fun j u hu => by
  cases j with
  | zero => simp at hu; subst hu; simpa using h
  | succ j => have := t j u (by simpa using hu); rwa [show i + (j + 1) = i + 1 + j by omega]
theorem CellsAt.out {p : Addr} {vs : List Value} (h : CellsAt w p 0 vs) : ∀ j u, vs[j]? = some u → w.cell? (p.add j) = some u := fun j u hu => by simpa using h j u hu

theorem run_storeAll {a : Addr} : ∀ (vs : List Value) (i : Nat) (w : World), (∀ u ∈ vs, u.oneCell' = true) →
    (∀ j, j < vs.length → (w.cell? (a.add (i + j))).isSome = true ∧ w.frozen? (a.add (i + j)) = false) → (storeCells a vs i).run P w = .ok () (setAll w a vs i)
  | [], i, w, _, _ => by simp [storeCells, setAll]
  | v :: r, i, w, h1, h => by
    obtain ⟨hc, hf⟩ := h 0 (by simp)
    rw [Nat.add_zero] at hc hf
    have ih := run_storeAll r (i + 1) (w.setCell (a.add i) v) (fun u hu => h1 u (List.mem_cons_of_mem _ hu)) (fun j hj => by
      obtain ⟨h2, h3⟩ := h (j + 1) (by simpa using hj)
      rw [show i + (j + 1) = i + 1 + j by omega] at h2 h3
      refine ⟨?_, by simpa using h3⟩
      by_cases e : a.add i = a.add (i + 1 + j)
      · obtain ⟨u, hu⟩ := Option.isSome_iff_exists.1 hc
        rw [← e, World.cell?_setCell_same w _ _ hu]
        rfl
      · rw [World.cell?_setCell_other w _ _ _ e]
        exact h2)
    obtain ⟨u, hu⟩ := Option.isSome_iff_exists.1 hc
    have hs := run_store P w (a.add i) v .plain (h1 v List.mem_cons_self)
    simp only [storeCells, setAll]
    simp [hs, hu, hf, ih]
theorem x_store {t : TypeId} {x y : Operand} {p : Addr} {v : Value} (ho : o.op = .store t x y) (hx : ρ x = .pointer (some p)) (hy : ρ y = v) (hsz : sizeT P t = some v.cells.size)
    (h1 : ∀ u ∈ v.cells.toList, u.oneCell' = true) (hs : ∀ j, j < v.cells.toList.length → (w.cell? (p.add j)).isSome = true ∧ w.frozen? (p.add j) = false) :
    (execOp ρ o).run P w = .ok .skip (setAll w p v.cells.toList 0) := by
  have hst := run_storeAll (P := P) (a := p) v.cells.toList 0 w h1 (by simpa using hs)
  unfold sizeT at hsz
  obtain ⟨inf, hi, hz⟩ := Option.map_eq_some_iff.1 hsz
  unfold execOp
  rw [ho]
  simp [hx, hy, Instr.storeAt, Instr.sureAddr, storeVar, sizeOf, typeInfo, hi, hz, hst]
theorem x_alloc {t : TypeId} {z : Value} (ho : o.op = .alloc t) (hz : (P.info? t).bind (·.zero) = some z) :
    (execOp ρ o).run P w = .ok (.value (.pointer (some ⟨w.heap.size, 0, none⟩))) (w.alloc (.cells z.cells t)) := by
  obtain ⟨inf, hi, hzz⟩ := Option.bind_eq_some_iff.1 hz
  unfold execOp
  rw [ho]
  simp [Instr.alloc, zeroValue, typeInfo, hi, hzz, newVar, newRow]
theorem x_box {t : TypeId} {x : Operand} {v : Value} (ho : o.op = .box t x) (hx : ρ x = v) :
    (execOp ρ o).run P w = .ok (.value (.pointer (some ⟨w.heap.size, 0, none⟩))) (w.alloc (.cells v.cells t)) := by
  unfold execOp
  rw [ho]
  simp [hx, Instr.box, newVar, newRow]
theorem x_extract {x : Operand} {i : Nat} {vs : Array Value} {v : Value} (ho : o.op = .extract x i) (hx : ρ x = .tuple vs) (hv : vs[i]? = some v) : (execOp ρ o).run P w = .ok (.value v) w := by
  unfold execOp
  rw [ho]
  simp [hx, Instr.extract, hv]
theorem x_indexAddr {t sz : Nat} {x y : Operand} {s : Sl} {k : IntKind} {i : Int} {a : Addr} (ho : o.op = .indexAddr t x y) (hx : ρ x = s.v) (hy : ρ y = .int k i) (ht : elemSize P t = some sz)
    (hi : 0 ≤ i ∧ i < s.len) (ha : s.a = some a) : (execOp ρ o).run P w = .ok (.value (.pointer (some (a.add (i.toNat * sz))))) w := by
  unfold elemSize at ht
  cases hu : P.underlying t with
  | none => simp [hu] at ht
  | some d =>
    cases d <;> simp [hu] at ht
    obtain ⟨inf, hinf, hz⟩ := ht
    unfold execOp
    rw [ho]
    simp [hx, hy, Sl.v, ha, Instr.indexAt, asIntOf, run_underlying hu, hi.1, hi.2, sizeOf, typeInfo, hinf, hz]
theorem x_lenS {t : TypeId} {x : Operand} {s : Sl} (ho : o.op = .call { callee := .builtin .len, args := #[x], argTypes := #[t] }) (hx : ρ x = s.v) (ht : isSliceT P t = true) :
    (execOp ρ o).run P w = .ok (.value (.int .i64 s.len)) w := by
  unfold isSliceT at ht
  cases hu : P.underlying t with
  | none => simp [hu] at ht
  | some d =>
    cases d <;> simp [hu] at ht
    unfold execOp
    rw [ho]
    simp [hx, Sl.v, resolve, invoke, builtin, Builtin.len_, run_underlying hu, goInt]
theorem x_lenStr {t : TypeId} {x : Operand} {s : ByteArray} (ho : o.op = .call { callee := .builtin .len, args := #[x], argTypes := #[t] }) (hx : ρ x = .string s) (ht : isStrT P t = true) :
    (execOp ρ o).run P w = .ok (.value (.int .i64 s.size)) w := by
  unfold isStrT at ht
  cases hu : P.underlying t with
  | none => simp [hu] at ht
  | some d =>
    cases d <;> simp [hu] at ht
    unfold execOp
    rw [ho]
    simp [hx, resolve, invoke, builtin, Builtin.len_, run_underlying hu, goInt]
section
variable {op : BinOp} {t t' : TypeId} {x y : Operand} {k : IntKind} {a b : Int}
theorem x_arith (ho : o.op = .binOp op t x y t') (hx : ρ x = .int k a) (hy : ρ y = .int k b) (r : Int) (hr : op = .add ∧ r = k.wrap (a + b) ∨ op = .sub ∧ r = k.wrap (a - b) ∨ op = .mul ∧ r = k.wrap (a * b)) :
    (execOp ρ o).run P w = .ok (.value (.int k r)) w := by
  unfold execOp
  rw [ho]
  rcases hr with ⟨rfl, rfl⟩ | ⟨rfl, rfl⟩ | ⟨rfl, rfl⟩ <;> simp [hx, hy, eqGuard, binOp, Op.intArith]
theorem x_add (ho : o.op = .binOp .add t x y t') (hx : ρ x = .int k a) (hy : ρ y = .int k b) : (execOp ρ o).run P w = .ok (.value (.int k (k.wrap (a + b)))) w := x_arith ho hx hy _ (.inl ⟨rfl, rfl⟩)
theorem x_sub (ho : o.op = .binOp .sub t x y t') (hx : ρ x = .int k a) (hy : ρ y = .int k b) : (execOp ρ o).run P w = .ok (.value (.int k (k.wrap (a - b)))) w := x_arith ho hx hy _ (.inr (.inl ⟨rfl, rfl⟩))
theorem x_mul (ho : o.op = .binOp .mul t x y t') (hx : ρ x = .int k a) (hy : ρ y = .int k b) : (execOp ρ o).run P w = .ok (.value (.int k (k.wrap (a * b)))) w := x_arith ho hx hy _ (.inr (.inr ⟨rfl, rfl⟩))
theorem x_quo (ho : o.op = .binOp .quo t x y t') (hx : ρ x = .int k a) (hy : ρ y = .int k b) (hb : b ≠ 0) : (execOp ρ o).run P w = .ok (.value (.int k (k.wrap (a.tdiv b)))) w := by
  unfold execOp
  rw [ho]
  simp [hx, hy, eqGuard, binOp, Op.intDiv, hb]
theorem x_rem (ho : o.op = .binOp .rem t x y t') (hx : ρ x = .int k a) (hy : ρ y = .int k b) (hb : b ≠ 0) : (execOp ρ o).run P w = .ok (.value (.int k (a.tmod b))) w := by
  unfold execOp
  rw [ho]
  simp [hx, hy, eqGuard, binOp, Op.intDiv, hb]
/-- bitwise and, shift to the right -/
def andK (k : IntKind) (a b : Int) : Int := k.wrap ((BitVec.ofInt k.bits a &&& BitVec.ofInt k.bits b).toNat : Int)
def shrK (k : IntKind) (a b : Int) : Int := a.fdiv (2 ^ (min b.toNat k.bits))
theorem x_and (ho : o.op = .binOp .and t x y t') (hx : ρ x = .int k a) (hy : ρ y = .int k b) : (execOp ρ o).run P w = .ok (.value (.int k (andK k a b))) w := by
  unfold execOp
  rw [ho]
  simp [hx, hy, eqGuard, binOp, Op.intBits, andK]
theorem x_shr {yk : IntKind} (ho : o.op = .binOp .shr t x y t') (hx : ρ x = .int k a) (hy : ρ y = .int yk b) (hb : 0 ≤ b) : (execOp ρ o).run P w = .ok (.value (.int k (shrK k a b))) w := by
  unfold execOp
  rw [ho]
  simp [hx, hy, eqGuard, binOp, Op.shift, shrK, show ¬ b < 0 by omega]
theorem x_lss (ho : o.op = .binOp .lss t x y t') (hx : ρ x = .int k a) (hy : ρ y = .int k b) : (execOp ρ o).run P w = .ok (.value (.bool (decide (a < b)))) w := by
  unfold execOp; rw [ho]; simp [hx, hy, eqGuard, binOp, Op.intCmp]
theorem x_leq (ho : o.op = .binOp .leq t x y t') (hx : ρ x = .int k a) (hy : ρ y = .int k b) : (execOp ρ o).run P w = .ok (.value (.bool (decide (a ≤ b)))) w := by
  unfold execOp; rw [ho]; simp [hx, hy, eqGuard, binOp, Op.intCmp]
theorem x_gtr (ho : o.op = .binOp .gtr t x y t') (hx : ρ x = .int k a) (hy : ρ y = .int k b) : (execOp ρ o).run P w = .ok (.value (.bool (decide (b < a)))) w := by
  unfold execOp; rw [ho]; simp [hx, hy, eqGuard, binOp, Op.intCmp]
theorem x_geq (ho : o.op = .binOp .geq t x y t') (hx : ρ x = .int k a) (hy : ρ y = .int k b) : (execOp ρ o).run P w = .ok (.value (.bool (decide (b ≤ a)))) w := by
  unfold execOp; rw [ho]; simp [hx, hy, eqGuard, binOp, Op.intCmp]
theorem x_eql (ho : o.op = .binOp .eql t x y t') (hx : ρ x = .int k a) (hy : ρ y = .int k b) : (execOp ρ o).run P w = .ok (.value (.bool (decide (a = b)))) w := by
  unfold execOp; rw [ho]
  have e : (a == b) = decide (a = b) := rfl
  simp [hx, hy, eqGuard, binOp, Op.intCmp, e]
theorem x_neq (ho : o.op = .binOp .neq t x y t') (hx : ρ x = .int k a) (hy : ρ y = .int k b) : (execOp ρ o).run P w = .ok (.value (.bool (!decide (a = b)))) w := by
  unfold execOp; rw [ho]
  have e : (a != b) = !decide (a = b) := rfl
  simp [hx, hy, eqGuard, binOp, Op.intCmp, e]
theorem x_eqlS {s u : ByteArray} (ho : o.op = .binOp .eql t x y t') (hx : ρ x = .string s) (hy : ρ y = .string u) : (execOp ρ o).run P w = .ok (.value (.bool (beqS s u))) w := by
  unfold execOp; rw [ho]; simp [hx, hy, eqGuard, binOp, Op.stringOp, beqS]
theorem x_neqS {s u : ByteArray} (ho : o.op = .binOp .neq t x y t') (hx : ρ x = .string s) (hy : ρ y = .string u) : (execOp ρ o).run P w = .ok (.value (.bool (!beqS s u))) w := by
  unfold execOp; rw [ho]; simp [hx, hy, eqGuard, binOp, Op.stringOp, beqS]
theorem x_eqlB {p q : Bool} (ho : o.op = .binOp .eql t x y t') (hx : ρ x = .bool p) (hy : ρ y = .bool q) (ht : isBoolT P t = true) : (execOp ρ o).run P w = .ok (.value (.bool (p == q))) w := by
  unfold isBoolT at ht
  have hu : P.underlying t = some .bool := by
    cases hu : P.underlying t with
    | none => simp [hu] at ht
    | some d => cases d <;> simp [hu] at ht <;> rfl
  unfold execOp; rw [ho]; simp [hx, hy, eqGuard, run_eql_bool w t p q hu]
theorem x_neqB {p q : Bool} (ho : o.op = .binOp .neq t x y t') (hx : ρ x = .bool p) (hy : ρ y = .bool q) (ht : isBoolT P t = true) : (execOp ρ o).run P w = .ok (.value (.bool (!(p == q)))) w := by
  unfold isBoolT at ht
  have hu : P.underlying t = some .bool := by
    cases hu : P.underlying t with
    | none => simp [hu] at ht
    | some d => cases d <;> simp [hu] at ht <;> rfl
  unfold execOp; rw [ho]; simp [hx, hy, eqGuard, run_neq_bool w t p q hu]
theorem ptr_under {t : TypeId} (ht : isPtrT P t = true) : P.underlying t = some (.pointer (P.pointee t)) := by
  unfold isPtrT at ht
  cases hu : P.underlying t with
  | none => simp [hu] at ht
  | some d =>
    cases d <;> simp [hu] at ht
    simp [Program.pointee, hu]
theorem x_eqlNil {p : Option Addr} (ho : o.op = .binOp .eql t x y t') (hx : ρ x = .pointer p) (hy : ρ y = .pointer none) (ht : isPtrT P t = true) : (execOp ρ o).run P w = .ok (.value (.bool p.isNone)) w := by
  have hu := ptr_under ht
  have e := run_eql_pointer_nil (P := P) w t p hu
  unfold execOp; rw [ho]
  cases p <;> simp [hx, hy, eqGuard, e]
theorem x_neqNil {p : Option Addr} (ho : o.op = .binOp .neq t x y t') (hx : ρ x = .pointer p) (hy : ρ y = .pointer none) (ht : isPtrT P t = true) : (execOp ρ o).run P w = .ok (.value (.bool (!p.isNone))) w := by
  have hu := ptr_under ht
  have e := run_neq_pointer_nil (P := P) w t p hu
  unfold execOp; rw [ho]
  cases p <;> simp [hx, hy, eqGuard, e]
theorem slice_under {t : TypeId} (ht : isSliceT P t = true) : ∃ e, P.underlying t = some (.slice e) := by
  unfold isSliceT at ht
  cases hu : P.underlying t with
  | none => simp [hu] at ht
  | some d =>
    cases d <;> simp [hu] at ht
    exact ⟨_, rfl⟩
theorem run_equalIn_slice_nil (d : Nat) (t e : TypeId) (a : Option Addr) (n c : Nat) (h : P.underlying t = some (.slice e)) :
    (Op.equalIn (d + 1) t (.slice a n c) (.slice none 0 0)).run P w = .ok a.isNone w := by
  cases a <;> simp [Op.equalIn, run_underlying h]
theorem run_equal_slice_nil (t e : TypeId) (a : Option Addr) (n c : Nat) (h : P.underlying t = some (.slice e)) :
    (Op.equal t (.slice a n c) (.slice none 0 0)).run P w = .ok a.isNone w := run_equalIn_slice_nil 9999 t e a n c h
theorem x_eqlNilS {s : Sl} (ho : o.op = .binOp .eql t x y t') (hx : ρ x = s.v) (hy : ρ y = .slice none 0 0) (ht : isSliceT P t = true) : (execOp ρ o).run P w = .ok (.value (.bool s.a.isNone)) w := by
  obtain ⟨e, hu⟩ := slice_under ht
  have h := run_equal_slice_nil (w := w) t e s.a s.len s.cap hu
  unfold execOp; rw [ho]
  simp [hx, hy, Sl.v, eqGuard, binOp, h]
theorem x_neqNilS {s : Sl} (ho : o.op = .binOp .neq t x y t') (hx : ρ x = s.v) (hy : ρ y = .slice none 0 0) (ht : isSliceT P t = true) : (execOp ρ o).run P w = .ok (.value (.bool (!s.a.isNone))) w := by
  obtain ⟨e, hu⟩ := slice_under ht
  have h := run_equal_slice_nil (w := w) t e s.a s.len s.cap hu
  unfold execOp; rw [ho]
  simp [hx, hy, Sl.v, eqGuard, binOp, h]
end
theorem x_not {t : TypeId} {x : Operand} {b : Bool} (ho : o.op = .unOp .not t x) (hx : ρ x = .bool b) : (execOp ρ o).run P w = .ok (.value (.bool (!b))) w := by
  unfold execOp; rw [ho]; simp [hx, Op.unary]
theorem x_neg {t : TypeId} {x : Operand} {k : IntKind} {a : Int} (ho : o.op = .unOp .neg t x) (hx : ρ x = .int k a) : (execOp ρ o).run P w = .ok (.value (.int k (k.wrap (0 - a)))) w := by
  unfold execOp; rw [ho]; simp [hx, Op.unary, Op.intArith]
theorem x_convI {s t : TypeId} {x : Operand} {k k' : IntKind} {a : Int} (ho : o.op = .convert s t x) (hx : ρ x = .int k' a) (ht : intKindT P t = some k) (hs : intKindT P s = some k') : (execOp ρ o).run P w = .ok (.value (.int k (k.wrap a))) w := by
  unfold intKindT at ht hs
  have hu : P.underlying t = some (.int k) := by
    cases hu : P.underlying t with
    | none => simp [hu] at ht
    | some d => cases d <;> simp [hu] at ht; subst ht; rfl
  have hv : P.underlying s = some (.int k') := by
    cases hu : P.underlying s with
    | none => simp [hu] at hs
    | some d => cases d <;> simp [hu] at hs; subst hs; rfl
  unfold execOp; rw [ho]
  simp [hx, convert, run_underlying hu, run_underlying hv, Conv.intToInt]
theorem x_min {ts : Array TypeId} {x y : Operand} {k : IntKind} {a b : Int} (ho : o.op = .call { callee := .builtin .min, args := #[x, y], argTypes := ts }) (hx : ρ x = .int k a) (hy : ρ y = .int k b) :
    (execOp ρ o).run P w = .ok (.value (.int k (min a b))) w := by
  have e : (if b < a then b else a) = min a b := by omega
  unfold execOp; rw [ho]; simp [hx, hy, resolve, invoke, builtin, run_min_int2, e]
theorem x_max {ts : Array TypeId} {x y : Operand} {k : IntKind} {a b : Int} (ho : o.op = .call { callee := .builtin .max, args := #[x, y], argTypes := ts }) (hx : ρ x = .int k a) (hy : ρ y = .int k b) :
    (execOp ρ o).run P w = .ok (.value (.int k (max a b))) w := by
  have e : (if b > a then b else a) = max a b := by omega
  unfold execOp; rw [ho]; simp [hx, hy, resolve, invoke, builtin, run_max_int2, e]
/-- build, buildSlice, field, index of a literal and whatever else is a closed fact at the values at hand -/
theorem bl_nil : ([] : List (Nat × Operand)).map (fun p => (p.1, ρ p.2)) = [] := rfl
theorem bl_cons {i : Nat} {x : Operand} {v : Value} {ps : List (Nat × Operand)} {qs : List (Nat × Value)} (h : ρ x = v) (k : ps.map (fun p => (p.1, ρ p.2)) = qs) : ((i, x) :: ps).map (fun p => (p.1, ρ p.2)) = (i, v) :: qs := by
  rw [List.map_cons, h, k]
theorem x_build {t : TypeId} {ps : List (Nat × Operand)} {qs : List (Nat × Value)} {v : Value} (ho : o.op = .build t ps.toArray) (hq : ps.map (fun p => (p.1, ρ p.2)) = qs) (hv : (Instr.build t qs.toArray).run P w = .ok v w) :
    (execOp ρ o).run P w = .ok (.value v) w := by
  subst hq
  unfold execOp; rw [ho]; simp [hv]
theorem x_field {t i : Nat} {x : Operand} {u v : Value} (ho : o.op = .field t x i) (hx : ρ x = u) (hv : (Instr.field t u i).run P w = .ok v w) :
    (execOp ρ o).run P w = .ok (.value v) w := by
  unfold execOp; rw [ho]; simp [hx, hv]
theorem x_buildSlice {t e : TypeId} {n : Nat} {ps : List (Nat × Operand)} {qs : List (Nat × Value)} {cs : Array Value} (ho : o.op = .buildSlice t n ps.toArray) (hq : ps.map (fun p => (p.1, ρ p.2)) = qs)
    (hv : ∀ w, (Instr.buildSlice t n qs.toArray).run P w = .ok (.slice (some ⟨w.heap.size, 0, none⟩) n n) (w.alloc (.cells cs e))) :
    (execOp ρ o).run P w = .ok (.value (Sl.v ⟨some ⟨w.heap.size, 0, none⟩, n, n⟩)) (w.alloc (.cells cs e)) := by
  subst hq
  unfold execOp; rw [ho]; simp [hv w, Sl.v]
/-- whatever the formula took raw -/
theorem x_append {ty : TypeId} {t : TypeId} {x y : Operand} {s u r : Sl} {w' : World} (ho : o.op = .call { callee := .builtin .append, args := #[x, y], argTypes := #[t, t] }) (hty : o.type = ty)
    (hx : ρ x = s.v) (hy : ρ y = u.v) (hr : (Builtin.append_ #[t, t] ty #[s.v, u.v]).run P w = .ok r.v w') : (execOp ρ o).run P w = .ok (.value r.v) w' := by
  subst hty
  unfold execOp; rw [ho]; simp [hx, hy, resolve, invoke, builtin, hr]
theorem x_call {f : FuncId} {fn : Func} {args : List Operand} {ts : Array TypeId} {vs : List Value} (ho : o.op = .call { callee := .value (.func f), args := args.toArray, argTypes := ts }) (hρ : ρ (.func f) = .func (.func f) #[] #[])
    (hv : args.map ρ = vs) (hf : P.funcs[f]? = some fn) (hn : (fn.name == "runtime.NumGoroutine") = false) (hb : fn.body.isNone = false) : (execOp ρ o).run P w = .ok (.enter f vs.toArray) w := by
  subst hv
  have hn' : fn.name ≠ "runtime.NumGoroutine" := by simpa using hn
  have hb' : fn.body ≠ none := by
    intro e
    simp [e] at hb
  unfold execOp; rw [ho]; simp [hρ, resolve, Deferred.ofValue, invoke, callFunc, hf, hn', hb']
/-! ### two structs against each other: what their one-cell fields give -/
def fieldsEq1 (P : Program) (xs ys : Array Value) : List Field → Option Bool
  | [] => some true
  | f :: fs =>
    if f.name = "_" then none else
      match P.underlying f.type, xs[f.offset]?, ys[f.offset]? with
      | some (.int _), some (.int k a), some (.int k' b) => if k = k' then (fieldsEq1 P xs ys fs).map fun r => decide (a = b) && r else none
      | some .bool, some (.bool a), some (.bool b) => (fieldsEq1 P xs ys fs).map fun r => (a == b) && r
      | some .string, some (.string a), some (.string b) => (fieldsEq1 P xs ys fs).map fun r => beqS a b && r
      | _, _, _ => none
theorem run_part1 {t : TypeId} {cs : Array Value} {off : Nat} {v : Value} (hag : (isAgg t).run P w = .ok false w) (hv : cs[off]? = some v) : (part t cs off).run P w = .ok v w := by
  simp [part, hag, hv]
theorem eqFields_run1 (d : Nat) (xs ys : Array Value) : ∀ (fs : List Field) (r : Bool), fieldsEq1 P xs ys fs = some r → (Op.eqFields (d + 1) xs ys fs).run P w = .ok r w
  | [], r, h => by
    simp only [fieldsEq1, Option.some.injEq] at h
    subst h
    simp [Op.eqFields]
  | f :: fs, r, h => by
    unfold fieldsEq1 at h
    split at h
    · cases h
    · rename_i hn
      have key : ∀ (v u : Value) (e : Bool) (r' : Bool), xs[f.offset]? = some v → ys[f.offset]? = some u → (isAgg f.type).run P w = .ok false w → (Op.equalIn (d + 1) f.type v u).run P w = .ok e w →
          fieldsEq1 P xs ys fs = some r' → r = (e && r') → (Op.eqFields (d + 1) xs ys (f :: fs)).run P w = .ok r w := by
        intro v u e r' hv hu hag he hr' hr
        have ih := eqFields_run1 d xs ys fs r' hr'
        unfold Op.eqFields
        rw [if_pos hn]
        have p1 := run_part1 (P := P) (w := w) hag hv
        have p2 := run_part1 (P := P) (w := w) hag hu
        cases e <;> simp [p1, p2, he, ih, hr]
      split at h
      · rename_i k0 k a k' b hu hx hy
        split at h
        · rename_i hk
          subst hk
          obtain ⟨r', hr', hr⟩ := Option.map_eq_some_iff.1 h
          exact key _ _ _ r' hx hy (by simp [isAgg, run_underlying hu]) (run_equalIn_int w d f.type k k0 a b hu) hr' hr.symm
        · cases h
      · rename_i a b hu hx hy
        obtain ⟨r', hr', hr⟩ := Option.map_eq_some_iff.1 h
        exact key _ _ _ r' hx hy (by simp [isAgg, run_underlying hu]) (run_equalIn_bool w d f.type a b hu) hr' hr.symm
      · rename_i a b hu hx hy
        obtain ⟨r', hr', hr⟩ := Option.map_eq_some_iff.1 h
        exact key _ _ _ r' hx hy (by simp [isAgg, run_underlying hu]) (run_equalIn_string w d f.type a b hu) hr' hr.symm
      · cases h
def fieldsEq (P : Program) (xs ys : Array Value) : List Field → Option Bool
  | [] => some true
  | f :: fs =>
    if f.name = "_" then none else
      match P.underlying f.type, xs[f.offset]?, ys[f.offset]? with
      | some (.int _), some (.int k a), some (.int k' b) => if k = k' then (fieldsEq P xs ys fs).map fun r => decide (a = b) && r else none
      | some .bool, some (.bool a), some (.bool b) => (fieldsEq P xs ys fs).map fun r => (a == b) && r
      | some .string, some (.string a), some (.string b) => (fieldsEq P xs ys fs).map fun r => beqS a b && r
      | some (.struct _), _, _ => if P.stoodInHeld f.type = true then none else match P.info? f.type with
        | none => none
        | some inf => match fieldsEq1 P (xs.extract f.offset (f.offset + inf.size)) (ys.extract f.offset (f.offset + inf.size)) (P.fieldsOf f.type).toList with
          | none => none
          | some a => (fieldsEq P xs ys fs).map fun r => a && r
      | _, _, _ => none
theorem eqFields_run (d : Nat) (xs ys : Array Value) : ∀ (fs : List Field) (r : Bool), fieldsEq P xs ys fs = some r → (Op.eqFields (d + 2) xs ys fs).run P w = .ok r w
  | [], r, h => by
    simp only [fieldsEq, Option.some.injEq] at h
    subst h
    simp [Op.eqFields]
  | f :: fs, r, h => by
    unfold fieldsEq at h
    split at h
    · cases h
    · rename_i hn
      have key0 : ∀ (v u : Value) (e : Bool) (r' : Bool), (part f.type xs f.offset).run P w = .ok v w → (part f.type ys f.offset).run P w = .ok u w → (Op.equalIn (d + 2) f.type v u).run P w = .ok e w →
          fieldsEq P xs ys fs = some r' → r = (e && r') → (Op.eqFields (d + 2) xs ys (f :: fs)).run P w = .ok r w := by
        intro v u e r' p1 p2 he hr' hr
        have ih := eqFields_run d xs ys fs r' hr'
        unfold Op.eqFields
        rw [if_pos hn]
        cases e <;> simp [p1, p2, he, ih, hr]
      have key : ∀ (v u : Value) (e : Bool) (r' : Bool), xs[f.offset]? = some v → ys[f.offset]? = some u → (isAgg f.type).run P w = .ok false w → (Op.equalIn (d + 2) f.type v u).run P w = .ok e w →
          fieldsEq P xs ys fs = some r' → r = (e && r') → (Op.eqFields (d + 2) xs ys (f :: fs)).run P w = .ok r w := fun v u e r' hv hu hag he hr' hr =>
        key0 v u e r' (run_part1 (P := P) (w := w) hag hv) (run_part1 (P := P) (w := w) hag hu) he hr' hr
      split at h
      · rename_i k0 k a k' b hu hx hy
        split at h
        · rename_i hk
          subst hk
          obtain ⟨r', hr', hr⟩ := Option.map_eq_some_iff.1 h
          exact key _ _ _ r' hx hy (by simp [isAgg, run_underlying hu]) (run_equalIn_int w (d + 1) f.type k k0 a b hu) hr' hr.symm
        · cases h
      · rename_i a b hu hx hy
        obtain ⟨r', hr', hr⟩ := Option.map_eq_some_iff.1 h
        exact key _ _ _ r' hx hy (by simp [isAgg, run_underlying hu]) (run_equalIn_bool w (d + 1) f.type a b hu) hr' hr.symm
      · rename_i a b hu hx hy
        obtain ⟨r', hr', hr⟩ := Option.map_eq_some_iff.1 h
        exact key _ _ _ r' hx hy (by simp [isAgg, run_underlying hu]) (run_equalIn_string w (d + 1) f.type a b hu) hr' hr.symm
      · rename_i gs hu
        split at h
        · cases h
        · rename_i hst
          split at h
          · cases h
          · rename_i inf hi
            split at h
            · cases h
            · rename_i a ha
              obtain ⟨r', hr', hr⟩ := Option.map_eq_some_iff.1 h
              have hgs : P.underlying f.type = some (.struct (P.fieldsOf f.type)) := by
                have : P.fieldsOf f.type = gs := by simp [Program.fieldsOf, hu]
                rw [this]
                exact hu
              have hp : ∀ cs : Array Value, (part f.type cs f.offset).run P w = .ok (.agg (cs.extract f.offset (f.offset + inf.size))) w := fun cs => by
                simp [part, isAgg, run_underlying hu, sizeOf, typeInfo, hi]
              have he := run_equalIn_agg (P := P) w (d + 1) f.type (xs.extract f.offset (f.offset + inf.size)) (ys.extract f.offset (f.offset + inf.size)) hgs (by simpa using hst)
              rw [eqFields_run1 d _ _ _ a ha] at he
              exact key0 _ _ _ r' (hp xs) (hp ys) he hr' hr.symm
      · cases h
section
variable {t t' : TypeId} {x y : Operand} {xs ys : Array Value} {r : Bool}
theorem x_eqlA (ho : o.op = .binOp .eql t x y t') (hx : ρ x = .agg xs) (hy : ρ y = .agg ys) (ht : P.underlying t = some (.struct (P.fieldsOf t))) (hp : P.stoodInHeld t = false) (hm : P.eqGuardType P.depth t = false)
    (hf : fieldsEq P xs ys (P.fieldsOf t).toList = some r) : (execOp ρ o).run P w = .ok (.value (.bool r)) w := by
  have h1 := run_eqGuard_agg (P := P) w .eql t x y xs ys hm
  have h2 := run_eql_struct (P := P) w t xs ys
  have h3 := run_equalIn_agg (P := P) w 9999 t xs ys ht hp
  have h4 := eqFields_run (P := P) (w := w) 9997 xs ys _ r hf
  unfold execOp; rw [ho]; simp [hx, hy, h1, h2, h3, h4]
theorem x_neqA (ho : o.op = .binOp .neq t x y t') (hx : ρ x = .agg xs) (hy : ρ y = .agg ys) (ht : P.underlying t = some (.struct (P.fieldsOf t))) (hp : P.stoodInHeld t = false) (hm : P.eqGuardType P.depth t = false)
    (hf : fieldsEq P xs ys (P.fieldsOf t).toList = some r) : (execOp ρ o).run P w = .ok (.value (.bool (!r))) w := by
  have h1 := run_eqGuard_agg (P := P) w .neq t x y xs ys hm
  have h2 := run_neq_struct (P := P) w t xs ys
  have h3 := run_equalIn_agg (P := P) w 9999 t xs ys ht hp
  have h4 := eqFields_run (P := P) (w := w) 9997 xs ys _ r hf
  unfold execOp; rw [ho]; simp [hx, hy, h1, h2, h3, h4]
end
theorem ones {l : List Value} (h : l.all Value.oneCell' = true) : ∀ u ∈ l, u.oneCell' = true := by simpa using h
/-! ### results in memory -/
theorem run_resCell {p : Addr} {t : TypeId} (vs : List Value) (ht : shapeT P t = some (vs.length + 1)) (hc : ∀ j u, vs[j]? = some u → w.cell? (p.add j) = some u) : (loadVar t p).run P w = .ok (.agg vs.toArray) w := by
  unfold shapeT at ht
  have hl := run_loadFrom (P := P) (w := w) (a := p) vs 0 #[] (by simpa using hc)
  cases hu : P.underlying t with
  | none => simp [hu] at ht
  | some d =>
    have key : (isAgg t).run P w = .ok true w ∧ ∃ inf, P.info? t = some inf ∧ inf.size = vs.length := by
      cases d <;> simp [hu, Option.map_eq_some_iff] at ht <;> exact ⟨by simp [isAgg, run_underlying hu], ht⟩
    obtain ⟨hag, inf, hi, hsz⟩ := key
    simp [loadVar, hag, sizeOf, typeInfo, hi, hsz, loadCells, hl]
theorem results_rep4 {fn : Func} {n t u s v : Nat} {a : Act} {ρ : Env} {x y z r : Value} (h : fn.results = #[.tmp t, .tmp u, .tmp s, .tmp v]) (ha : Rep n a ρ) (hx : ρ t = x) (hy : ρ u = y) (hz : ρ s = z) (hr : ρ v = r) : (results fn a.tmps).run P w = .ok (.tuple #[x, y, z, r]) w := by
  have e : (results fn a.tmps).run P w = .ok (.tuple #[a.tmps.getD t undef, a.tmps.getD u undef, a.tmps.getD s undef, a.tmps.getD v undef]) w := by simp [results, h]
  rw [e, ha.tmp t, ha.tmp u, ha.tmp s, ha.tmp v, hx, hy, hz, hr]
theorem results_repC {fn : Func} {n s : Nat} {t : TypeId} {a : Act} {ρ : Env} {p : Addr} (vs : List Value) (h : fn.results = #[.cell s t]) (ha : Rep n a ρ) (hs : ρ s = .pointer (some p))
    (ht : shapeT P t = some (vs.length + 1)) (hc : ∀ j u, vs[j]? = some u → w.cell? (p.add j) = some u) : (results fn a.tmps).run P w = .ok (.agg vs.toArray) w := by
  have hl := run_resCell (P := P) (w := w) vs ht hc
  have e := ha.tmp s
  rw [hs, Array.getD_eq_getD_getElem?] at e
  simp [results, h, e, asAddr, hl]
theorem results_repCT {fn : Func} {n s u : Nat} {t : TypeId} {a : Act} {ρ : Env} {p : Addr} {x : Value} (vs : List Value) (h : fn.results = #[.cell s t, .tmp u]) (ha : Rep n a ρ) (hs : ρ s = .pointer (some p)) (hx : ρ u = x)
    (ht : shapeT P t = some (vs.length + 1)) (hc : ∀ j u, vs[j]? = some u → w.cell? (p.add j) = some u) : (results fn a.tmps).run P w = .ok (.tuple #[.agg vs.toArray, x]) w := by
  have hl := run_resCell (P := P) (w := w) vs ht hc
  have e := ha.tmp s
  rw [hs, Array.getD_eq_getD_getElem?] at e
  have e2 := ha.tmp u
  rw [hx, Array.getD_eq_getD_getElem?] at e2
  simp [results, h, e, e2, asAddr, hl]
end
end Go.Dec
