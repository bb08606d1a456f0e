/-
  The plain law of a queue that serves the earliest due step first: what it took on is gone in time. No program in sight.
-/
namespace Go.Top
set_option maxHeartbeats 400000

structure Wt where
  ev : Int
  net : Int
  left : Int
  due : Int
deriving DecidableEq

/-- the most steps without service in T of them -/
def dn (win down T : Int) : Int := if down > 0 then T / win * down + min (T % win) down else 0
def MP : Int := 4503599627370496
/-- what a network gives at least from now until due -/
def gv (rate win down now due : Int) : Int :=
  if due < now then 0 else
    let s := due - now - dn win down (due - now)
    if 0 < s ∧ MP / s < rate then MP else rate * s
def Pos (l : List Wt) : Prop := ∀ y ∈ l, 1 ≤ y.left ∧ 0 ≤ y.due
/-- the indices of what is for network n, from k on -/
def idx (n : Int) : Nat → List Wt → List Nat
  | _, [] => []
  | k, y :: r => if y.net = n then k :: idx n (k + 1) r else idx n (k + 1) r
theorem idx_append (n : Int) (y : Wt) : ∀ (a : List Wt) (k : Nat), idx n k (a ++ [y]) = idx n k a ++ (if y.net = n then [k + a.length] else [])
  | [], k => by simp [idx]
  | x :: r, k => by
    have := idx_append n y r (k + 1)
    simp only [List.cons_append, idx, this, List.length_cons]
    rw [show k + 1 + r.length = k + (r.length + 1) by omega]
    split <;> simp
theorem idx_mem {n : Int} {j : Nat} : ∀ {r : List Wt} {k : Nat}, j ∈ idx n k r ↔ ∃ y, k ≤ j ∧ r[j - k]? = some y ∧ y.net = n
  | [], k => by simp [idx]
  | x :: r, k => by
    have ih := idx_mem (n := n) (j := j) (r := r) (k := k + 1)
    have key : (∃ y, k ≤ j ∧ (x :: r)[j - k]? = some y ∧ y.net = n) ↔ (j = k ∧ x.net = n) ∨ ∃ y, k + 1 ≤ j ∧ r[j - (k + 1)]? = some y ∧ y.net = n := by
      constructor
      · rintro ⟨y, h1, h2, h3⟩
        by_cases e : j = k
        · subst e
          simp at h2
          subst h2
          exact .inl ⟨rfl, h3⟩
        · refine .inr ⟨y, by omega, ?_, h3⟩
          rw [show j - k = (j - (k + 1)) + 1 by omega] at h2
          simpa using h2
      · rintro (⟨rfl, h⟩ | ⟨y, h1, h2, h3⟩)
        · exact ⟨x, Nat.le_refl _, by simp, h⟩
        · refine ⟨y, by omega, ?_, h3⟩
          rw [show j - k = (j - (k + 1)) + 1 by omega]
          simpa using h2
    rw [key, ← ih]
    simp only [idx]
    split <;> rename_i e <;> simp [e]
/-- serve in an order: places left, the list, what is done -/
def srv : List Nat → Int → List Wt → List Int → Int × List Wt × List Int
  | [], pl, l, dn => (pl, l, dn)
  | i :: r, pl, l, dn => match l[i]? with
    | some x => srv r (pl - min pl x.left) (l.set i { x with left := x.left - min pl x.left }) (if x.left - min pl x.left = 0 then dn ++ [x.ev] else dn)
    | none => srv r pl l dn
theorem srv_cons {i : Nat} {r : List Nat} {pl : Int} {l : List Wt} {dn : List Int} {x : Wt} (h : l[i]? = some x) : srv (i :: r) pl l dn = srv r (pl - min pl x.left) (l.set i { x with left := x.left - min pl x.left }) (if x.left - min pl x.left = 0 then dn ++ [x.ev] else dn) := by
  simp only [srv, h]
structure Jb where
  id : Int
  size : Int
  due : Int
deriving DecidableEq
/-- each job's needs are at most what is given until it is due -/
def PO (G : Int → Int) : Int → List Jb → Prop
  | _, [] => True
  | k, x :: r => k + x.size ≤ G x.due ∧ PO G (k + x.size) r
def jb (y : Wt) : Jb := ⟨y.ev, y.left, y.due⟩
def jobs (n : Int) (l : List Wt) : List Jb := (l.filter fun y => decide (y.net = n)).map jb
theorem dn_le {win down T : Int} (hw : 0 < down → down < win) (hT : 0 ≤ T) : 0 ≤ dn win down T ∧ dn win down T ≤ T := by
  unfold dn
  split
  · rename_i hp
    have hw := hw hp
    have h1 : 0 ≤ T / win := Int.ediv_nonneg hT (by omega)
    have h2 := Int.emod_nonneg T (show win ≠ 0 by omega)
    have h3 := Int.mul_ediv_add_emod T win
    have h4 : T / win * down ≤ T / win * win := Int.mul_le_mul_of_nonneg_left (by omega) h1
    have h5 : 0 ≤ T / win * down := Int.mul_nonneg h1 (by omega)
    rw [Int.mul_comm] at h3
    omega
  · omega
def rightP (y : Wt) : Prop := ((0 ≤ y.ev ∧ y.ev ≤ 99999) ∧ (0 ≤ y.net ∧ y.net ≤ 11)) ∧ (1 ≤ y.left ∧ y.left ≤ 1099511627776) ∧ (0 ≤ y.due ∧ y.due ≤ 1073741824)
instance (y : Wt) : Decidable (rightP y) := by unfold rightP; infer_instance
def hasP (l : List Wt) (e n : Int) : Prop := ∃ y ∈ l, y.ev = e ∧ y.net = n
instance (l : List Wt) (e n : Int) : Decidable (hasP l e n) := by unfold hasP; infer_instance
def QW (l : List Wt) : Prop := (∀ y ∈ l, rightP y) ∧ l.Pairwise fun a b => ¬ (a.ev = b.ev ∧ a.net = b.net)
theorem QW.nil : QW [] := ⟨fun y hy => by simp at hy, .nil⟩
theorem QW.pos {l : List Wt} (h : QW l) : Pos l := fun y hy => by
  have := h.1 y hy
  unfold rightP at this
  omega
theorem QW.put {l : List Wt} {w : Wt} (h : QW l) (hr : rightP w) (hn : ¬ hasP l w.ev w.net) : QW (l ++ [w]) := by
  refine ⟨fun y hy => ?_, ?_⟩
  · rcases List.mem_append.1 hy with e | e
    · exact h.1 y e
    · simp at e
      exact e ▸ hr
  · rw [List.pairwise_append]
    refine ⟨h.2, by simp, fun a ha b hb => ?_⟩
    simp at hb
    subst hb
    exact fun c => hn ⟨a, ha, c⟩
/-- what a put gives -/
def PutR (ok : Prop) (rate win down now : Int) (l : List Wt) (w : Wt) (e : Int) (out : List Wt) : Prop :=
  (rightP w ∧ ¬ hasP l w.ev w.net ∧ ok ∧ ∃ s, List.Perm s (jobs w.net (l ++ [w])) ∧ s.Pairwise (fun a b => a.due ≤ b.due) ∧ ((PO (gv rate win down now) 0 s ∧ e = 0 ∧ out = l ++ [w]) ∨ (¬ PO (gv rate win down now) 0 s ∧ e ≠ 0 ∧ out = l))) ∨
  (¬ (rightP w ∧ ¬ hasP l w.ev w.net ∧ ok) ∧ e ≠ 0 ∧ out = l)
/-- what a step gives -/
def StepR (rate n : Int) (l : List Wt) (done : List Int) (left : List Wt) : Prop :=
  ∃ o, List.Perm o (idx n 0 l) ∧ o.Pairwise (fun i j => ∀ x y, l[i]? = some x → l[j]? = some y → x.due ≤ y.due) ∧ done = (srv o rate l []).2.2 ∧ left = (srv o rate l []).2.1.filter fun y => decide (y.left ≠ 0)
end Go.Top
