/-
  From a call that returns true, and leaves what was there as it was, to the row of a law. Over any program.
-/
import Derived.Test.YtgbhghoppjfofaaGreatMem
import Derived.ProofKit
import Derived.Deep.Slices
import Derived.Deep.Fields
import Derived.SizedLaws
import Derived.OpenShut
namespace Go.Dec
open Go.RowKit Go.ChangeShapes Go.WideShapes Go.ChangeAt Go.Deep

section
variable {H : Type} {enc : TypeId × Value → H} {P : Program}

theorem args_stay (hl : laidOutB P = true) {W W' : World} (hb : Below W.heap.size W W') : ∀ (ts : List TypeId) (vs : List Value) (ds : List (DataW H)) (ps : List MemPlace), (ts.all fun t => P.readableRec t && decide (t < P.types.size)) = true →
    (∀ p ∈ ps, p.block < W.heap.size) → DataW.TrodAll enc P W 0 (fun _ => true) true ts vs ds ps → DataW.TrodAll enc P W' 0 (fun b => decide (b < W.heap.size)) true ts vs ds ps
  | [], vs, ds, ps, _, _, h => by
    obtain ⟨rfl, rfl, rfl⟩ := trodAll_nil h
    exact trodAll_mk0
  | t :: ts, vs, ds, ps, hr, hlt, h => by
    obtain ⟨v, vs', d, ds', p, q, rfl, rfl, rfl, h1, h2⟩ := trodAll_cons h
    simp only [List.all_cons, Bool.and_eq_true, decide_eq_true_eq] at hr
    exact trodAll_cons_mk (Below.trod hl hr.1.1 hr.1.2 h1 hb fun x hx => hlt x (List.mem_append.2 (.inl hx))) (args_stay hl hb ts vs' ds' q hr.2 (fun x hx => hlt x (List.mem_append.2 (.inr hx))) h2)

theorem law_post {fn : Func} {s : ChangeSpec} {tb : TypeId} (hl : laidOutB P = true) (hr : (fn.params.toList.all fun t => P.readableRec t && decide (t < P.types.size)) = true) (hvars : s.vars = []) (hres : fn.resultTypes = #[tb]) (hb : P.underlying tb = some .bool)
    {W W' : World} {args : Array Value} {ds gs : List (DataW H)} {before : List MemPlace} (hW : DataW.Whole enc P fn.params.toList s.vars false W args.toList ds gs before)
    (hs : (s.fn H (ds ++ gs)).results = [.lit (.bool true)] ∧ (s.fn H (ds ++ gs)).args = ds ∧ (s.fn H (ds ++ gs)).vars = [])
    (hbel : Below W.heap.size W W') : s.post enc P fn false true false false W args (.bool true) W' := by
  have hW' := hW
  obtain ⟨p, q, hA, hV, rfl, hfz, hnd⟩ := hW
  have hlt := hW'.lt
  rw [hvars] at hV
  obtain ⟨rfl, rfl⟩ := trodVars_none hV
  refine ⟨ds, [], _, [], p, [], hW', ?_, ?_, ?_, hbel.frame _, fun h => by cases h⟩
  · rw [hs.1, hres]
    exact trodAll_mk1 (shut_bool hb true)
  · rw [hs.2.1]
    exact args_stay hl hbel _ _ _ _ hr (fun x hx => hlt x (List.mem_append.2 (.inl hx))) hA
  · rw [hs.2.2, hvars]
    rfl

/-- a struct's cells, each read by its field's type -/
theorem struct_cells {w : World} {base : Nat} {spare : Nat → Bool} {held : Bool} {e : TypeId} {fs : Array Field} {n : Nat} {cs : List Value} {x : DataW H × List MemPlace} (he : P.underlying e = some (.struct fs))
    (hone : oneCellFields P fs = true) (h : DataW.trod enc P w base spare held n e cs = some x) (hl : cs.length = fs.size) :
    ∀ (j : Nat) (f : Field), fs[j]? = some f → ∃ (v : Value) (y : DataW H × List MemPlace) (m : Nat), cs[j]? = some v ∧ DataW.trod enc P w base spare held m f.type [v] = some y := by
  obtain ⟨ys, n', _, _, _, hyl, hf⟩ := DataW.trod_struct he h
  intro j f hj
  obtain ⟨ho, hk⟩ := hone_of hone j f hj
  have hjl : j < fs.size := (Array.getElem?_eq_some_iff.1 hj).1
  have h1 := hf j f hj
  rw [ho, hk, List.drop_eq_getElem_cons (by omega)] at h1
  have hys : ys[j]? = some (ys[j]'(by omega)) := List.getElem?_eq_getElem (by omega)
  exact ⟨_, _, n', List.getElem?_eq_getElem (by omega), h1.trans hys⟩
theorem one_int {w : World} {base : Nat} {spare : Nat → Bool} {held : Bool} {t : TypeId} {k : IntKind} {n : Nat} {v : Value} {x : DataW H × List MemPlace} (ht : P.underlying t = some (.int k)) (h : DataW.trod enc P w base spare held n t [v] = some x) :
    ∃ i, v = .int k i ∧ (Lit.int k i).wf = true := by
  obtain ⟨i, e, _, hw⟩ := DataW.trod_int ht h
  simp at e
  exact ⟨i, e, hw⟩
theorem one_string {w : World} {base : Nat} {spare : Nat → Bool} {held : Bool} {t : TypeId} {n : Nat} {v : Value} {x : DataW H × List MemPlace} (ht : P.underlying t = some .string) (h : DataW.trod enc P w base spare held n t [v] = some x) :
    ∃ s, v = .string s ∧ s.size ≤ maxLen := by
  obtain ⟨s, e, hx⟩ := DataW.trod_string ht h
  simp at e
  exact ⟨s, e, hx.2⟩

theorem one_bool {w : World} {base : Nat} {spare : Nat → Bool} {held : Bool} {t : TypeId} {n : Nat} {v : Value} {x : DataW H × List MemPlace} (ht : P.underlying t = some .bool) (h : DataW.trod enc P w base spare held n t [v] = some x) :
    ∃ b, v = .bool b ∧ True := by
  obtain ⟨b, e, hx⟩ := DataW.trod_bool ht h
  simp at e
  exact ⟨b, e, trivial⟩
theorem wf_i64 {i : Int} (h : (Lit.int .i64 i).wf = true) : -9223372036854775808 ≤ i ∧ i ≤ 9223372036854775807 := by
  have : (decide (IntKind.i64.min ≤ i) && decide (i ≤ IntKind.i64.max)) = true := h
  simp only [Bool.and_eq_true, decide_eq_true_eq] at this
  have h1 : IntKind.i64.min = -9223372036854775808 := by decide
  have h2 : IntKind.i64.max = 9223372036854775807 := by decide
  omega
theorem wf_u16 {i : Int} (h : (Lit.int .u16 i).wf = true) : 0 ≤ i ∧ i ≤ 65535 := by
  have : (decide (IntKind.u16.min ≤ i) && decide (i ≤ IntKind.u16.max)) = true := h
  simp only [Bool.and_eq_true, decide_eq_true_eq] at this
  have h1 : IntKind.u16.min = 0 := by decide
  have h2 : IntKind.u16.max = 65535 := by decide
  omega
theorem wf_u8 {i : Int} (h : (Lit.int .u8 i).wf = true) : 0 ≤ i ∧ i ≤ 255 := by
  have : (decide (IntKind.u8.min ≤ i) && decide (i ≤ IntKind.u8.max)) = true := h
  simp only [Bool.and_eq_true, decide_eq_true_eq] at this
  have h1 : IntKind.u8.min = 0 := by decide
  have h2 : IntKind.u8.max = 255 := by decide
  omega
theorem wf_u32 {i : Int} (h : (Lit.int .u32 i).wf = true) : 0 ≤ i ∧ i ≤ 4294967295 := by
  have : (decide (IntKind.u32.min ≤ i) && decide (i ≤ IntKind.u32.max)) = true := h
  simp only [Bool.and_eq_true, decide_eq_true_eq] at this
  have h1 : IntKind.u32.min = 0 := by decide
  have h2 : IntKind.u32.max = 4294967295 := by decide
  omega
/-- how many bytes a slice that is an argument has -/
theorem trod_sized {W : World} {t e j : Nat} {s : Sl} {d : DataW H} {p : List MemPlace} {ts : List TypeId} {ds : List (DataW H)} (ht : P.underlying t = some (.slice e)) (h : DataW.Trod enc P W 0 (fun _ => true) true t s.v d p)
    (hz : (DataW.weightsEach P ts ds).all (· ≤ reachBytes) = true) (hj : ts[j]? = some t) (hd : ds[j]? = some d) : s.len * P.bytesOf e ≤ reachBytes := by
  obtain ⟨fuel, hf⟩ := h
  rcases open_slice ht hf with ⟨hcs, _⟩ | ⟨a, len, cap, m, n, D, Pl, hcs, _, hl, hm, hmm, hx, _⟩
  · simp [Sl.v, Value.cells] at hcs
    rw [hcs.2.1, Nat.zero_mul]
    exact Nat.zero_le _
  · simp [Sl.v, Value.cells] at hcs
    injection hx with hx1 hx2
    subst hx1
    have := sized_slice hz hj hd ht
    simp only [List.length_map, List.length_range] at this
    refine Nat.le_trans (Nat.mul_le_mul_right _ ?_) this
    omega
theorem trod_sized_str {W : World} {t j : Nat} {s : ByteArray} {d : DataW H} {p : List MemPlace} {ts : List TypeId} {ds : List (DataW H)} (ht : P.underlying t = some .string) (h : DataW.Trod enc P W 0 (fun _ => true) true t (.string s) d p)
    (hz : (DataW.weightsEach P ts ds).all (· ≤ reachBytes) = true) (hj : ts[j]? = some t) (hd : ds[j]? = some d) : s.size ≤ reachBytes := by
  obtain ⟨fuel, hf⟩ := h
  obtain ⟨s', e, hx⟩ := DataW.trod_string ht hf
  simp [Value.cells] at e
  subst e
  have hd' : d = .lit (.string s.data.toList) := by
    have := hx.1
    injection this
  subst hd'
  have := sized_string hz hj hd
  have e2 : s.data.toList.length = s.size := Array.length_toList
  rw [← e2]
  exact this
/-- an argument that is a struct -/
theorem open_st {α : Type} {W : World} {r : Reach} {b0 : Nat} {t : TypeId} {fs : Array Field} {v : Value} {d : DataW H} {p : List MemPlace} (c : α → List Value) {Q : α → Prop} (sz : Nat) (ht : P.underlying t = some (.struct fs)) (hsz : P.cellsOf t = sz)
    (hval : Value.okWide P W r b0 t v) (h : DataW.Trod enc P W 0 (fun _ => true) true t v d p)
    (hel : ∀ (n : Nat) (cs : List Value) (x : DataW H × List MemPlace), cs.length = sz → DataW.trod enc P W 0 (fun _ => true) true n t cs = some x → ∃ y : α, cs = c y ∧ Q y) :
    ∃ y : α, v = .agg (c y).toArray ∧ Q y := by
  obtain ⟨cs, rfl, hs⟩ := okWide_struct ht hval
  obtain ⟨fuel, hf⟩ := h
  obtain ⟨y, hy, hq⟩ := hel fuel _ _ (by simp [Value.cells, hs, hsz]) hf
  refine ⟨y, ?_, hq⟩
  rw [← hy]
  simp [Value.cells]

/-- an argument that is a slice -/
theorem open_rd {α : Type} {W : World} {r : Reach} {b0 : Nat} {t e : TypeId} {v : Value} {d : DataW H} {p : List MemPlace} (c : α → List Value) (sz : Nat) (ht : P.underlying t = some (.slice e)) (hsz : P.cellsOf e = sz) (hc : ∀ x, (c x).length = sz) (h0 : 0 < sz)
    (hval : Value.okWide P W r b0 t v) (h : DataW.Trod enc P W 0 (fun _ => true) true t v d p)
    {Q : α → Prop} (hel : ∀ (n : Nat) (cs : List Value) (x : DataW H × List MemPlace), cs.length = sz → DataW.trod enc P W 0 (fun _ => true) true n e cs = some x → ∃ y : α, cs = c y ∧ Q y) :
    ∃ (s : Sl) (l : List α), v = s.v ∧ Rd W c sz s l ∧ (∀ ad, s.a = some ad → 0 < l.length → ad.block < W.heap.size) ∧ l.length ≤ maxLen ∧ ∀ y ∈ l, Q y := by
  obtain ⟨a0, n0, c0, rfl⟩ := okWide_slice ht hval
  obtain ⟨fuel, hf⟩ := h
  rcases open_slice ht hf with ⟨hcs, _⟩ | ⟨a, len, cap, m, n, D, Pl, hcs, _, hl, hm, hmm, _, hi⟩
  · simp [Value.cells] at hcs
    obtain ⟨rfl, rfl, rfl⟩ := hcs
    exact ⟨Sl.nil, [], rfl, Rd.nil _ _ _, fun _ h => by simp [Sl.nil] at h, by simp, fun y h => by simp at h⟩
  · simp [Value.cells] at hcs
    obtain ⟨rfl, rfl, rfl⟩ := hcs
    have hmm' : m = c0 := by simpa using hmm
    subst hmm'
    have key : ∀ i, i < n0 → ∃ y : α, Q y ∧ ∀ j u, (c y)[j]? = some u → W.cell? ((a.add (i * sz)).add j) = some u := by
      intro i hin
      obtain ⟨cs', hc', ht'⟩ := hi i (by omega)
      rw [hsz] at hc'
      obtain ⟨_, hcl, hat⟩ := World.cells?_some hc'
      obtain ⟨y, rfl, hq⟩ := hel n cs' _ hcl ht'
      refine ⟨y, hq, fun j u hu => ?_⟩
      have hj : j < sz := by have := (List.getElem?_eq_some_iff.1 hu).1; rw [hc] at this; exact this
      rw [hat j hj, hu]
    have : ∃ l : List α, l.length = n0 ∧ (∀ y ∈ l, Q y) ∧ ∀ i y, l[i]? = some y → ∀ j u, (c y)[j]? = some u → W.cell? ((a.add (i * sz)).add j) = some u := by
      have aux : ∀ k, k ≤ n0 → ∃ l : List α, l.length = k ∧ (∀ y ∈ l, Q y) ∧ ∀ i y, l[i]? = some y → ∀ j u, (c y)[j]? = some u → W.cell? ((a.add (i * sz)).add j) = some u := by
        intro k
        induction k with
        | zero => exact fun _ => ⟨[], rfl, fun y h => by simp at h, fun i y h => by simp at h⟩
        | succ k ih =>
          intro hk
          obtain ⟨l, h1, hq, h2⟩ := ih (by omega)
          obtain ⟨y, hqy, hy⟩ := key k (by omega)
          refine ⟨l ++ [y], by simp [h1], fun z hz => (List.mem_append.1 hz).elim (hq z) fun e => by simp at e; exact e ▸ hqy, fun i z hz => ?_⟩
          rcases Nat.lt_trichotomy i k with hik | hik | hik
          · rw [List.getElem?_append_left (by omega)] at hz
            exact h2 i z hz
          · subst hik
            rw [List.getElem?_append_right (by omega), h1] at hz
            simp at hz
            subst hz
            exact hy
          · rw [List.getElem?_eq_none (by simp; omega)] at hz
            cases hz
      exact aux n0 (Nat.le_refl _)
    obtain ⟨l, h1, hq, h2⟩ := this
    refine ⟨⟨some a, n0, m⟩, l, rfl, ⟨h1.symm, fun i x hx => ⟨a, rfl, fun j u hu => h2 i x hx j u hu⟩⟩, fun ad had hpos => ?_, by rw [h1]; exact Nat.le_trans hl hm, hq⟩
    simp at had
    subst had
    obtain ⟨y, hy⟩ : ∃ y, l[0]? = some y := ⟨_, List.getElem?_eq_getElem hpos⟩
    have hp : 0 < (c y).length := by rw [hc]; exact h0
    have := World.block_lt_of_cell? W _ (h2 0 y hy 0 _ (List.getElem?_eq_getElem hp))
    rwa [add_block, add_block] at this
/-- a slice that is read: its elements by a relation -/
theorem trod_rdR {α : Type} {W : World} {t e : TypeId} {v : Value} {fuel : Nat} {x0 : DataW H × List MemPlace} (R : List Value → α → Prop) (sz : Nat) (ht : P.underlying t = some (.slice e)) (hsz : P.cellsOf e = sz)
    (hf : DataW.trod enc P W 0 (fun _ => true) true fuel t [v] = some x0)
    (hel : ∀ (n : Nat) (cs : List Value) (x : DataW H × List MemPlace), cs.length = sz → DataW.trod enc P W 0 (fun _ => true) true n e cs = some x → ∃ y : α, R cs y) :
    ∃ (s : Sl) (l : List α), v = s.v ∧ s.len = l.length ∧ (∀ i y, l[i]? = some y → ∃ ad cs, s.a = some ad ∧ cs.length = sz ∧ AtC W (ad.add (i * sz)) cs ∧ R cs y) ∧ l.length ≤ maxLen := by
  rcases open_slice ht hf with ⟨hcs, _⟩ | ⟨a, len, cap, m, n, D, Pl, hcs, _, hl, hm, hmm, _, hi⟩
  · simp at hcs
    subst hcs
    exact ⟨Sl.nil, [], rfl, rfl, fun i y h => by simp at h, by simp⟩
  · simp at hcs
    subst hcs
    have hmm' : m = cap := by simpa using hmm
    subst hmm'
    have key : ∀ i, i < len → ∃ (y : α) (cs : List Value), cs.length = sz ∧ AtC W (a.add (i * sz)) cs ∧ R cs y := by
      intro i hin
      obtain ⟨cs', hc', ht'⟩ := hi i (by omega)
      rw [hsz] at hc'
      obtain ⟨_, hcl, hat⟩ := World.cells?_some hc'
      obtain ⟨y, hr⟩ := hel n cs' _ hcl ht'
      refine ⟨y, cs', hcl, fun j u hu => ?_, hr⟩
      have hj : j < sz := by have := (List.getElem?_eq_some_iff.1 hu).1; rw [hcl] at this; exact this
      rw [hat j hj, hu]
    have aux : ∀ k, k ≤ len → ∃ l : List α, l.length = k ∧ ∀ i y, l[i]? = some y → ∃ cs : List Value, cs.length = sz ∧ AtC W (a.add (i * sz)) cs ∧ R cs y := by
      intro k
      induction k with
      | zero => exact fun _ => ⟨[], rfl, fun i y h => by simp at h⟩
      | succ k ih =>
        intro hk
        obtain ⟨l, h1, h2⟩ := ih (by omega)
        obtain ⟨y, cs, hy⟩ := key k (by omega)
        refine ⟨l ++ [y], by simp [h1], fun i z hz => ?_⟩
        rcases Nat.lt_trichotomy i k with hik | hik | hik
        · rw [List.getElem?_append_left (by omega)] at hz
          exact h2 i z hz
        · subst hik
          rw [List.getElem?_append_right (by omega), h1] at hz
          simp at hz
          subst hz
          exact ⟨cs, hy⟩
        · rw [List.getElem?_eq_none (by simp; omega)] at hz
          cases hz
    obtain ⟨l, h1, h2⟩ := aux len (Nat.le_refl _)
    refine ⟨⟨some a, len, m⟩, l, rfl, h1.symm, fun i y hy => ?_, by rw [h1]; exact Nat.le_trans hl hm⟩
    obtain ⟨cs, h3⟩ := h2 i y hy
    exact ⟨a, cs, rfl, h3⟩
theorem open_rdR {α : Type} {W : World} {r : Reach} {b0 : Nat} {t e : TypeId} {v : Value} {d : DataW H} {p : List MemPlace} (R : List Value → α → Prop) (sz : Nat) (ht : P.underlying t = some (.slice e)) (hsz : P.cellsOf e = sz)
    (hval : Value.okWide P W r b0 t v) (h : DataW.Trod enc P W 0 (fun _ => true) true t v d p)
    (hel : ∀ (n : Nat) (cs : List Value) (x : DataW H × List MemPlace), cs.length = sz → DataW.trod enc P W 0 (fun _ => true) true n e cs = some x → ∃ y : α, R cs y) :
    ∃ (s : Sl) (l : List α), v = s.v ∧ s.len = l.length ∧ (∀ i y, l[i]? = some y → ∃ ad cs, s.a = some ad ∧ cs.length = sz ∧ AtC W (ad.add (i * sz)) cs ∧ R cs y) ∧ l.length ≤ maxLen := by
  obtain ⟨a0, n0, c0, rfl⟩ := okWide_slice ht hval
  obtain ⟨fuel, hf⟩ := h
  exact trod_rdR R sz ht hsz hf hel
/-- a slice within a struct, its elements not looked at -/
theorem one_slice {w : World} {base : Nat} {spare : Nat → Bool} {held : Bool} {t e : TypeId} {n : Nat} {v : Value} {x : DataW H × List MemPlace} (ht : P.underlying t = some (.slice e)) (h : DataW.trod enc P w base spare held n t [v] = some x) :
    ∃ s : Sl, v = Sl.v s ∧ True := by
  rcases open_slice ht h with ⟨hcs, _⟩ | ⟨a, len, cap, m, n, D, Pl, hcs, _⟩
  · simp at hcs
    exact ⟨Sl.nil, hcs, trivial⟩
  · simp at hcs
    exact ⟨⟨some a, len, cap⟩, hcs, trivial⟩
theorem trod_cap {W : World} {t e : TypeId} {s : Sl} {d : DataW H} {p : List MemPlace} (ht : P.underlying t = some (.slice e)) (h : DataW.Trod enc P W 0 (fun _ => true) true t s.v d p) : s.len ≤ s.cap := by
  obtain ⟨fuel, hf⟩ := h
  rcases open_slice ht hf with ⟨hcs, _⟩ | ⟨a, len, cap, m, n, D, Pl, hcs, _, hl, hm, hmm, hx, _⟩
  · simp [Sl.v, Value.cells] at hcs
    rw [hcs.2.1]
    exact Nat.zero_le _
  · simp [Sl.v, Value.cells] at hcs
    obtain ⟨_, rfl, rfl⟩ := hcs
    have hmm' : m = s.cap := by simpa using hmm
    omega
/-- a slice of one-cell elements within a struct -/
theorem trod_rd1 {α : Type} {W : World} {t e : TypeId} {v : Value} {fuel : Nat} {x0 : DataW H × List MemPlace} (c : α → List Value) {Q : α → Prop} (sz : Nat) (ht : P.underlying t = some (.slice e)) (hsz : P.cellsOf e = sz)
    (hf : DataW.trod enc P W 0 (fun _ => true) true fuel t [v] = some x0)
    (hel : ∀ (n : Nat) (cs : List Value) (x : DataW H × List MemPlace), cs.length = sz → DataW.trod enc P W 0 (fun _ => true) true n e cs = some x → ∃ y : α, cs = c y ∧ Q y) :
    ∃ (s : Sl) (l : List α), v = s.v ∧ Rd W c sz s l ∧ l.length ≤ maxLen ∧ ∀ y ∈ l, Q y := by
  obtain ⟨s, l, h1, h2, h3, h4⟩ := trod_rdR (fun cs y => cs = c y ∧ Q y) sz ht hsz hf hel
  refine ⟨s, l, h1, ⟨h2, fun i y hy => ?_⟩, h4, fun y hy => ?_⟩
  · obtain ⟨ad, cs, a1, _, a2, rfl, _⟩ := h3 i y hy
    exact ⟨ad, a1, a2⟩
  · obtain ⟨i, hi⟩ := List.getElem?_of_mem hy
    obtain ⟨_, _, _, _, _, _, hq⟩ := h3 i y hi
    exact hq
/-- the same, with what is spare -/
theorem one_rd {α : Type} {W : World} {t e : TypeId} {v : Value} {fuel : Nat} {x0 : DataW H × List MemPlace} (c : α → List Value) {Q : α → Prop} (sz : Nat) (ht : P.underlying t = some (.slice e)) (hsz : P.cellsOf e = sz)
    (hf : DataW.trod enc P W 0 (fun _ => true) true fuel t [v] = some x0)
    (hel : ∀ (n : Nat) (cs : List Value) (x : DataW H × List MemPlace), cs.length = sz → DataW.trod enc P W 0 (fun _ => true) true n e cs = some x → ∃ y : α, cs = c y ∧ Q y) :
    ∃ (s : Sl) (l : List α), v = s.v ∧ Rd W c sz s l ∧ l.length ≤ maxLen ∧ (∀ y ∈ l, Q y) ∧ s.len ≤ s.cap := by
  obtain ⟨s, l, rfl, h2, h3, h4⟩ := trod_rd1 c sz ht hsz hf hel
  refine ⟨s, l, rfl, h2, h3, h4, ?_⟩
  rcases open_slice ht hf with ⟨hcs, _⟩ | ⟨a, len, cap, m, n, D, Pl, hcs, _, hl, hm, hmm, hx, _⟩
  · simp [Sl.v] at hcs
    rw [hcs.2.1]
    exact Nat.zero_le _
  · simp [Sl.v] at hcs
    obtain ⟨_, rfl, rfl⟩ := hcs
    have hmm' : m = s.cap := by simpa using hmm
    omega
end
end Go.Dec
