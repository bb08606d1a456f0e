/-
  Operations that a formula takes raw: what their run gives. Over any program.
-/
import Derived.Test.YtgbhghoppjfofaaGreatDecOps
namespace Go.Dec
section
variable {P : Program} {n : Nat} {ops : Array Oper} {rest : List Oper} {o : Oper} {Q : Env → World → Prop} {ρ : Env} {w w' : World} {v : Value} {fuel : Nat} {listed : Array Bool} {L L' : List (Nat × (World → Prop))}
/-- a value that goes nowhere -/
theorem wpR_val0 (hw : Region.wanted o (yv ops ρ) = true) (hd : o.dst = none) (hr : (execOp (ev ρ) o).run P w = .ok (.value v) w') (k : wpR P n ops rest Q ρ w') : wpR P n ops (o :: rest) Q ρ w := by
  refine wpR_raw hw fun a ha K hK => ?_
  unfold Oper.wp
  rw [ha.eval, hr]
  show K (a.put o.dst v) w'
  rw [hd]
  exact hK _ _ _ (ha.put_none _) k
theorem stepD_val0L {i : Nat} {oi : Oper} (hi : ops[i]? = some oi) (hw : Region.wanted oi (yv ops ρ) = true) (hd : oi.dst = none)
    (hr : (execOp (ev ρ) oi).run P w = .ok (.value v) w') (hl : left ops i L = L') (hh : ∀ e ∈ L', e.2 w') (k : wpD P n ops fuel (listed.setIfInBounds i true) L' Q ρ w') :
    ∀ a, Rep n a ρ → wpOp P ops (fun _ _ _ => False) i (fun a' w' => held ops i L w' ∧ ∃ ρ', Rep n a' ρ' ∧ wpD P n ops fuel (listed.setIfInBounds i true) (left ops i L) Q ρ' w') a w := by
  subst hl
  intro a ha
  unfold wpOp
  rw [hi]
  simp only [ha.yielded, hw, if_true]
  refine .inl ?_
  unfold Oper.wp
  rw [ha.eval, hr]
  show held ops i L w' ∧ _
  rw [hd]
  exact ⟨hh, _, ha.put_none _, k⟩
theorem stepD_enter0L {i : Nat} {oi : Oper} {f : FuncId} {args : Array Value} (hi : ops[i]? = some oi) (hw : Region.wanted oi (yv ops ρ) = true) (hd : oi.dst = none)
    (hr : (execOp (ev ρ) oi).run P w = .ok (.enter f args) w) (hl : left ops i L = L')
    (h : Calls P f args w fun e w' => ∃ v, e = .returned v ∧ (∀ e ∈ L', e.2 w') ∧ wpD P n ops fuel (listed.setIfInBounds i true) L' Q ρ w') :
    ∀ a, Rep n a ρ → wpOp P ops (fun _ _ _ => False) i (fun a' w' => held ops i L w' ∧ ∃ ρ', Rep n a' ρ' ∧ wpD P n ops fuel (listed.setIfInBounds i true) (left ops i L) Q ρ' w') a w := by
  subst hl
  intro a ha
  unfold wpOp
  rw [hi]
  simp only [ha.yielded, hw, if_true]
  refine .inl ?_
  unfold Oper.wp
  rw [ha.eval, hr]
  show Calls P f args w _
  refine h.mono ?_
  rintro e w' ⟨v, rfl, hh, k⟩
  show held ops i L w' ∧ _
  rw [hd]
  exact ⟨hh, _, ha.put_none _, k⟩
end
section
variable {P : Program} {w w' : World} {ρ : Operand → Value} {o : Oper} {v : Value}
theorem x_makeSlice {t : TypeId} {l c : Operand} {a b : Value} (ho : o.op = .makeSlice t l c) (hl : ρ l = a) (hc : ρ c = b) (hr : (Instr.makeSlice t a b).run P w = .ok v w') : (execOp ρ o).run P w = .ok (.value v) w' := by
  unfold execOp; rw [ho]; simp [hl, hc, hr]
theorem x_sliceAt {t : TypeId} {x : Operand} {lo hi mx : Option Operand} {a : Value} {l h m : Option Value} (ho : o.op = .slice t x lo hi mx) (hx : ρ x = a) (hl : lo.map ρ = l) (hh : hi.map ρ = h) (hm : mx.map ρ = m)
    (hr : (Instr.sliceAt t a l h m).run P w = .ok v w') : (execOp ρ o).run P w = .ok (.value v) w' := by
  unfold execOp; rw [ho]; simp [hx, hl, hh, hm, hr]
theorem x_makeMap {t : TypeId} {r : Option Operand} {a : Option Value} (ho : o.op = .makeMap t r) (hx : r.map ρ = a) (hr : (Instr.makeMap t a).run P w = .ok v w') : (execOp ρ o).run P w = .ok (.value v) w' := by
  unfold execOp; rw [ho]; simp [hx, hr]
theorem x_lookup {t : TypeId} {x i : Operand} {a b : Value} {ok : Bool} (ho : o.op = .lookup t x i ok) (hx : ρ x = a) (hi : ρ i = b) (hr : (Instr.lookup t a b ok).run P w = .ok v w') : (execOp ρ o).run P w = .ok (.value v) w' := by
  unfold execOp; rw [ho]; simp [hx, hi, hr]
theorem x_mapUpdate {t : TypeId} {x i y : Operand} {a b c : Value} (ho : o.op = .mapUpdate t x i y) (hx : ρ x = a) (hi : ρ i = b) (hy : ρ y = c) (hr : (Instr.mapUpdate t a b c).run P w = .ok () w') : (execOp ρ o).run P w = .ok .skip w' := by
  unfold execOp; rw [ho]; simp [hx, hi, hy, hr]
theorem x_insert {t : TypeId} {x i y : Operand} {a b c : Value} (ho : o.op = .insert t x i y) (hx : ρ x = a) (hi : ρ i = b) (hy : ρ y = c) (hr : (Instr.mapUpdate t a b c).run P w = .ok () w') : (execOp ρ o).run P w = .ok .skip w' := by
  unfold execOp; rw [ho]; simp [hx, hi, hy, hr]
theorem x_delete {t k ty : TypeId} {x y : Operand} {a b : Value} (ho : o.op = .call { callee := .builtin .delete, args := #[x, y], argTypes := #[t, k] }) (hty : o.type = ty)
    (hx : ρ x = a) (hy : ρ y = b) (hr : (Builtin.delete_ #[t, k] ty #[a, b]).run P w = .ok v w') : (execOp ρ o).run P w = .ok (.value v) w' := by
  subst hty
  unfold execOp; rw [ho]; simp [hx, hy, resolve, invoke, builtin, hr]
theorem x_append2 {t k ty : TypeId} {x y : Operand} {a b : Value} (ho : o.op = .call { callee := .builtin .append, args := #[x, y], argTypes := #[t, k] }) (hty : o.type = ty)
    (hx : ρ x = a) (hy : ρ y = b) (hr : (Builtin.append_ #[t, k] ty #[a, b]).run P w = .ok v w') : (execOp ρ o).run P w = .ok (.value v) w' := by
  subst hty
  unfold execOp; rw [ho]; simp [hx, hy, resolve, invoke, builtin, hr]
theorem x_copy {t k ty : TypeId} {x y : Operand} {a b : Value} (ho : o.op = .call { callee := .builtin .copy, args := #[x, y], argTypes := #[t, k] }) (hty : o.type = ty)
    (hx : ρ x = a) (hy : ρ y = b) (hr : (Builtin.copy_ #[t, k] ty #[a, b]).run P w = .ok v w') : (execOp ρ o).run P w = .ok (.value v) w' := by
  subst hty
  unfold execOp; rw [ho]; simp [hx, hy, resolve, invoke, builtin, hr]
theorem x_capS {t : TypeId} {x : Operand} {s : Sl} (ho : o.op = .call { callee := .builtin .cap, args := #[x], argTypes := #[t] }) (hx : ρ x = s.v) (ht : isSliceT P t = true) :
    (execOp ρ o).run P w = .ok (.value (.int .i64 s.cap)) w := by
  unfold isSliceT at ht
  cases hu : P.underlying t with
  | none => simp [hu] at ht
  | some d =>
    cases d <;> simp [hu] at ht
    unfold execOp
    rw [ho]
    simp [hx, resolve, invoke, builtin, Builtin.cap_, run_underlying hu, Sl.v, goInt]
theorem x_clear {t ty : TypeId} {x : Operand} {a : Value} (ho : o.op = .call { callee := .builtin .clear, args := #[x], argTypes := #[t] }) (hty : o.type = ty)
    (hx : ρ x = a) (hr : (Builtin.clear_ #[t] ty #[a]).run P w = .ok v w') : (execOp ρ o).run P w = .ok (.value v) w' := by
  subst hty
  unfold execOp; rw [ho]; simp [hx, resolve, invoke, builtin, hr]
theorem x_index {t : TypeId} {x i : Operand} {a b : Value} (ho : o.op = .index t x i) (hx : ρ x = a) (hi : ρ i = b) (hr : (Instr.index t a b).run P w = .ok v w') : (execOp ρ o).run P w = .ok (.value v) w' := by
  unfold execOp; rw [ho]; simp [hx, hi, hr]
theorem x_indexAt {t : TypeId} {x i : Operand} {a b : Value} (ho : o.op = .indexAddr t x i) (hx : ρ x = a) (hi : ρ i = b) (hr : (Instr.indexAt t a b).run P w = .ok v w') : (execOp ρ o).run P w = .ok (.value v) w' := by
  unfold execOp; rw [ho]; simp [hx, hi, hr]
def isMapT (P : Program) (t : Nat) : Bool := match P.underlying t with | some (.map _ _) => true | _ => false
theorem map_under {t : Nat} (h : isMapT P t = true) : ∃ k e, P.underlying t = some (.map k e) := by
  unfold isMapT at h
  split at h
  · rename_i k e hu; exact ⟨k, e, hu⟩
  · cases h
theorem run_equalIn_map_nil (d : Nat) (t k e : TypeId) (a : Option Nat) (h : P.underlying t = some (.map k e)) : (Op.equalIn (d + 1) t (.map a) (.map none)).run P w = .ok a.isNone w := by
  cases a <;> simp [Op.equalIn, run_underlying h]
theorem run_equal_map_nil (t k e : TypeId) (a : Option Nat) (h : P.underlying t = some (.map k e)) : (Op.equal t (.map a) (.map none)).run P w = .ok a.isNone w := run_equalIn_map_nil 9999 t k e a h
theorem x_eqlNilM {t t' : TypeId} {x y : Operand} {a : Option Nat} (ho : o.op = .binOp .eql t x y t') (hx : ρ x = .map a) (hy : ρ y = .map none) (ht : isMapT P t = true) : (execOp ρ o).run P w = .ok (.value (.bool a.isNone)) w := by
  obtain ⟨k, e, hu⟩ := map_under ht
  have h := run_equal_map_nil (w := w) t k e a hu
  unfold execOp; rw [ho]
  simp [hx, hy, eqGuard, binOp, h]
theorem x_neqNilM {t t' : TypeId} {x y : Operand} {a : Option Nat} (ho : o.op = .binOp .neq t x y t') (hx : ρ x = .map a) (hy : ρ y = .map none) (ht : isMapT P t = true) : (execOp ρ o).run P w = .ok (.value (.bool (!a.isNone))) w := by
  obtain ⟨k, e, hu⟩ := map_under ht
  have h := run_equal_map_nil (w := w) t k e a hu
  unfold execOp; rw [ho]
  simp [hx, hy, eqGuard, binOp, h]
theorem x_conv {s t : TypeId} {x : Operand} {a : Value} (ho : o.op = .convert s t x) (hx : ρ x = a) (hr : (convert s t a).run P w = .ok v w') : (execOp ρ o).run P w = .ok (.value v) w' := by
  unfold execOp; rw [ho]; simp [hx, hr]
/-! ### function values -/
theorem mapl_nil {α β : Type} {f : α → β} : ([] : List α).map f = [] := rfl
theorem mapl_cons {α β : Type} {f : α → β} {x : α} {v : β} {l : List α} {vs : List β} (h : f x = v) (t : l.map f = vs) : (x :: l).map f = v :: vs := by rw [List.map_cons, h, t]
def nf (v : Value) : Prop := ∃ f fi ca, v = .func (.func f) fi ca
def cv {γ : Type} (P : Program) (v : Value) (args : List Value) (enc : γ → Value) (w : World) (K : γ → World → Prop) : Prop :=
  ∃ f fi ca fn, v = .func (.func f) fi ca ∧ P.funcs[f]? = some fn ∧ (fn.name == "runtime.NumGoroutine") = false ∧ fn.body.isNone = false ∧ callC P f (fi ++ args.toArray ++ ca) enc w K
def cx {γ : Type} (P : Program) (f : FuncId) (args : List Value) (enc : γ → Value) (w : World) (K : γ → World → Prop) : Prop :=
  ∃ x w', (callFunc f args.toArray).run P w = .ok (.value (enc x)) w' ∧ K x w'
theorem x_nilCheckF {x : Operand} {v : Value} (ho : o.op = .nilCheck x) (hx : ρ x = v) (h : nf v) : (execOp ρ o).run P w = .ok (.value v) w := by
  obtain ⟨f, fi, ca, rfl⟩ := h
  unfold execOp; rw [ho]; simp [hx]
theorem x_makeFunc {f : FuncId} {cs : List Operand} {vs : List Value} (ho : o.op = .makeFunc (.func f) #[] cs.toArray) (hv : cs.map ρ = vs) : (execOp ρ o).run P w = .ok (.value (.func (.func f) #[] vs.toArray)) w := by
  subst hv
  unfold execOp; rw [ho]; simp [Instr.makeFunc]
theorem x_callv {x : Operand} {f : FuncId} {fi ca : Array Value} {fn : Func} {args : List Operand} {ts : Array TypeId} {vs : List Value} (ho : o.op = .call { callee := .value x, args := args.toArray, argTypes := ts }) (hx : ρ x = .func (.func f) fi ca)
    (hv : args.map ρ = vs) (hf : P.funcs[f]? = some fn) (hn : (fn.name == "runtime.NumGoroutine") = false) (hb : fn.body.isNone = false) : (execOp ρ o).run P w = .ok (.enter f (fi ++ vs.toArray ++ ca)) w := by
  subst hv
  have hn' : fn.name ≠ "runtime.NumGoroutine" := by simpa using hn
  have hb' : fn.body ≠ none := by
    intro e
    simp [e] at hb
  unfold execOp; rw [ho]; simp [hx, resolve, Deferred.ofValue, invoke, callFunc, hf, hn', hb']
theorem x_callx {f : FuncId} {args : List Operand} {ts : Array TypeId} {vs : List Value} (ho : o.op = .call { callee := .value (.func f), args := args.toArray, argTypes := ts }) (hρ : ρ (.func f) = .func (.func f) #[] #[])
    (hv : args.map ρ = vs) (hr : (callFunc f vs.toArray).run P w = .ok (.value v) w') : (execOp ρ o).run P w = .ok (.value v) w' := by
  subst hv
  unfold execOp; rw [ho]; simp [hρ, resolve, Deferred.ofValue, invoke]
  simpa using hr
theorem x_makeInterface {t : TypeId} {x : Operand} {a : Value} (ho : o.op = .makeInterface t x) (hx : ρ x = a) (hr : (Instr.makeInterface t a).run P w = .ok v w') : (execOp ρ o).run P w = .ok (.value v) w' := by
  unfold execOp; rw [ho]; simp [hx, hr]
theorem x_typeAssert {t u : TypeId} {x : Operand} {a : Value} {ok : Bool} (ho : o.op = .typeAssert x t u ok) (hx : ρ x = a) (hr : (Instr.typeAssert a t u ok).run P w = .ok v w') : (execOp ρ o).run P w = .ok (.value v) w' := by
  unfold execOp; rw [ho]; simp [hx, hr]
end
end Go.Dec
