/-
  Polynomials over the field of Num: their roots, Lagrange's and Newton's form. Plain, no program.
-/
import Derived.Test.YtmnhehklhelpeaaNum
namespace Go.Dec

def evp : List Int → Int → Int
  | [], _ => 0
  | a :: c, x => a + x * evp c x
def ladd : List Int → List Int → List Int
  | [], m => m
  | l, [] => l
  | a :: l, b :: m => (a + b) :: ladd l m
theorem ladd_len : ∀ (l m : List Int), (ladd l m).length = max l.length m.length
  | [], m => by simp [ladd]
  | a :: l, [] => by simp [ladd]
  | a :: l, b :: m => by
    rw [ladd, List.length_cons, ladd_len l m, List.length_cons, List.length_cons]
    omega
theorem evp_ladd : ∀ (l m : List Int) (x : Int), evp (ladd l m) x = evp l x + evp m x
  | [], m, x => by simp [ladd, evp]
  | a :: l, [], x => by simp [ladd, evp]
  | a :: l, b :: m, x => by
    rw [ladd, evp, evp, evp, evp_ladd l m x]
    grind
theorem evp_smul (k : Int) : ∀ (l : List Int) (x : Int), evp (l.map (k * ·)) x = k * evp l x
  | [], x => by simp [evp]
  | a :: l, x => by
    rw [List.map_cons, evp, evp, evp_smul k l x]
    grind
/-- division by (x - r) -/
theorem evp_div : ∀ (c : List Int) (r : Int), ∃ q : List Int, q.length = c.length - 1 ∧ ∀ x, evp c x - evp c r = (x - r) * evp q x
  | [], r => ⟨[], rfl, fun x => by simp [evp]⟩
  | a :: c, r => by
    obtain ⟨q, h1, h2⟩ := evp_div c r
    refine ⟨ladd c (q.map (r * ·)), ?_, fun x => ?_⟩
    · rw [ladd_len, List.length_map, h1, List.length_cons]
      omega
    · rw [evp_ladd, evp_smul, evp, evp]
      have := h2 x
      grind
/-- as many roots as factors -/
theorem roots : ∀ (n : Nat) (c : List Int) (l : List Int), c.length ≤ n → n ≤ l.length → l.Pairwise (fun a b => ¬ cg a b) → (∀ x ∈ l, cg (evp c x) 0) → ∀ x, cg (evp c x) 0
  | 0, c, _, hc, _, _, _, x => by
    have : c = [] := List.length_eq_zero_iff.1 (by omega)
    subst this
    exact cg.refl 0
  | n + 1, c, [], _, hl, _, _, _ => by simp at hl
  | n + 1, c, r :: l, hc, hl, hp, hr, x => by
    obtain ⟨q, h1, h2⟩ := evp_div c r
    obtain ⟨hp1, hp2⟩ := List.pairwise_cons.1 hp
    have h0 := hr r (by simp)
    have key : ∀ y, cg (evp c y) ((y - r) * evp q y) := fun y => by
      have : cg (evp c y - evp c r) ((y - r) * evp q y) := cg.of (h2 y)
      have h3 : cg (evp c y - evp c r) (evp c y - 0) := (cg.refl _).sub h0
      rw [Int.sub_zero] at h3
      exact h3.symm.trans this
    have hq := roots n q l (by omega) (by simpa using hl) hp2 fun y hy => by
      have h3 := (key y).symm.trans (hr y (by simp [hy]))
      rcases h3.zero_mul with h4 | h4
      · exact absurd (cg.sub0.2 h4).symm (hp1 y hy)
      · exact h4
    have h4 := (key x).trans ((cg.refl (x - r)).mul (hq x))
    rwa [Int.mul_zero] at h4

/-! ### functions that are polynomials -/
def IsP (n : Nat) (f : Int → Int) : Prop := ∃ c : List Int, c.length ≤ n ∧ ∀ x, cg (f x) (evp c x)
theorem IsP.zero : IsP 0 fun _ => 0 := ⟨[], Nat.le_refl _, fun _ => cg.refl 0⟩
theorem IsP.const (a : Int) : IsP 1 fun _ => a := ⟨[a], Nat.le_refl _, fun x => cg.of (by simp [evp])⟩
theorem IsP.mono {n m : Nat} {f : Int → Int} (h : IsP n f) (hm : n ≤ m) : IsP m f := by
  obtain ⟨c, h1, h2⟩ := h
  exact ⟨c, by omega, h2⟩
theorem IsP.congr {n : Nat} {f g : Int → Int} (h : IsP n f) (e : ∀ x, cg (g x) (f x)) : IsP n g := by
  obtain ⟨c, h1, h2⟩ := h
  exact ⟨c, h1, fun x => (e x).trans (h2 x)⟩
theorem IsP.add {n : Nat} {f g : Int → Int} (h : IsP n f) (k : IsP n g) : IsP n fun x => f x + g x := by
  obtain ⟨c, h1, h2⟩ := h
  obtain ⟨d, k1, k2⟩ := k
  exact ⟨ladd c d, by rw [ladd_len]; omega, fun x => by rw [evp_ladd]; exact (h2 x).add (k2 x)⟩
theorem IsP.smul {n : Nat} {f : Int → Int} (a : Int) (h : IsP n f) : IsP n fun x => a * f x := by
  obtain ⟨c, h1, h2⟩ := h
  exact ⟨c.map (a * ·), by simpa using h1, fun x => by rw [evp_smul]; exact (cg.refl a).mul (h2 x)⟩
theorem IsP.sub {n : Nat} {f g : Int → Int} (h : IsP n f) (k : IsP n g) : IsP n fun x => f x - g x :=
  (h.add (k.smul (-1))).congr fun x => cg.of (by omega)
theorem IsP.lin {n : Nat} {f : Int → Int} (r : Int) (h : IsP n f) : IsP (n + 1) fun x => (x - r) * f x := by
  obtain ⟨c, h1, h2⟩ := h
  refine ⟨ladd (0 :: c) (c.map (-r * ·)), by rw [ladd_len, List.length_map, List.length_cons]; omega, fun x => ?_⟩
  rw [evp_ladd, evp_smul, evp]
  refine ((cg.refl (x - r)).mul (h2 x)).trans (cg.of ?_)
  grind
/-- two that agree in enough places are the same -/
theorem IsP.uniq {n : Nat} {f g : Int → Int} (h : IsP n f) (k : IsP n g) {l : List Int} (hl : n ≤ l.length) (hp : l.Pairwise fun a b => ¬ cg a b) (e : ∀ x ∈ l, cg (f x) (g x)) (x : Int) : cg (f x) (g x) := by
  obtain ⟨c, h1, h2⟩ := h.sub k
  have := roots n c l h1 hl hp (fun y hy => (h2 y).symm.trans (cg.sub0.1 (e y hy))) x
  exact cg.sub0.2 ((h2 x).trans this)
/-- with a factor at the top -/
def IsL (n : Nat) (f : Int → Int) (a : Int) : Prop := IsP n fun x => f x - a * x ^ n
theorem IsL.of {n : Nat} {f : Int → Int} (h : IsP n f) : IsL n f 0 := h.congr fun x => cg.of (by rw [Int.zero_mul, Int.sub_zero])
theorem IsL.lin {n : Nat} {f : Int → Int} {a : Int} (r : Int) (h : IsL n f a) : IsL (n + 1) (fun x => (x - r) * f x) a := by
  have h1 := IsP.lin r h
  -- (x - r)(f - a x^n) = (x - r) f - a x^(n+1) + r a x^n
  have hpow : ∀ n, IsP (n + 1) fun x => x ^ n := by
    intro n
    induction n with
    | zero => exact (IsP.const 1).congr fun x => cg.of (by rw [Int.pow_zero])
    | succ n ih => exact (IsP.lin 0 ih).congr fun x => cg.of (by rw [Int.pow_succ]; grind)
  exact (h1.sub ((hpow n).smul (r * a))).congr fun x => cg.of (by rw [Int.pow_succ]; grind)
theorem IsL.comb {n : Nat} {f g : Int → Int} {a b : Int} (u v : Int) (h : IsL n f a) (k : IsL n g b) : IsL n (fun x => u * f x + v * g x) (u * a + v * b) :=
  ((IsP.smul u h).add (IsP.smul v k)).congr fun x => cg.of (by grind)
theorem IsL.congr {n : Nat} {f g : Int → Int} {a b : Int} (h : IsL n f a) (e : ∀ x, cg (g x) (f x)) (ea : cg b a) : IsL n g b :=
  IsP.congr h fun x => (e x).sub (ea.mul (cg.refl _))

/-! ### points -/
structure Pt where
  x : Int
  y : Int
deriving DecidableEq
/-- the product of x less the places -/
def pxs (l : List Pt) (x : Int) : Int := match l with
  | [] => 1
  | s :: l => (x - s.x) * pxs l x
theorem pxs_app (x : Int) : ∀ (l m : List Pt), pxs (l ++ m) x = pxs l x * pxs m x
  | [], m => by simp [pxs]
  | s :: l, m => by
    rw [List.cons_append, pxs, pxs, pxs_app x l m, Int.mul_assoc]
theorem pxs_P : ∀ (l : List Pt), IsP (l.length + 1) (pxs l)
  | [] => IsP.const 1
  | s :: l => (IsP.lin s.x (pxs_P l)).congr fun x => cg.refl _
theorem pxs_L : ∀ (l : List Pt), IsL l.length (pxs l) 1
  | [] => (IsP.zero).congr fun x => cg.of (by show 1 - 1 * x ^ 0 = 0; rw [Int.pow_zero]; rfl)
  | s :: l => IsL.congr (IsL.lin s.x (pxs_L l)) (fun x => cg.refl _) (cg.refl 1)
theorem pxs_0 {x : Int} : ∀ {l : List Pt}, (∃ s ∈ l, cg x s.x) → cg (pxs l x) 0
  | [], h => by obtain ⟨s, hs, _⟩ := h; cases hs
  | s :: l, h => by
    rw [pxs]
    obtain ⟨t, ht, e⟩ := h
    rcases List.mem_cons.1 ht with rfl | ht
    · have := (cg.sub0.1 e).mul (cg.refl (pxs l x))
      rwa [Int.zero_mul] at this
    · have := (cg.refl (x - s.x)).mul (pxs_0 ⟨t, ht, e⟩)
      rwa [Int.mul_zero] at this
theorem pxs_ne {x : Int} : ∀ {l : List Pt}, (∀ s ∈ l, ¬ cg x s.x) → ¬ cg (pxs l x) 0
  | [], _, h => by
    obtain ⟨k, hk⟩ := h
    unfold pxs M at hk
    omega
  | s :: l, hs, h => by
    rw [pxs] at h
    rcases h.zero_mul with h | h
    · exact hs s (by simp) (cg.sub0.2 h)
    · exact pxs_ne (fun t ht => hs t (by simp [ht])) h
/-- places that differ -/
def Dis (l : List Pt) : Prop := l.Pairwise fun a b => ¬ cg a.x b.x
theorem Dis.take {l : List Pt} (h : Dis l) (k : Nat) : Dis (l.take k) := h.sublist (List.take_sublist k l)
theorem Dis.sub {l m : List Pt} (h : Dis l) (k : m.Sublist l) : Dis m := List.Pairwise.sublist k h
theorem Dis.ne {l : List Pt} (h : Dis l) {i j : Nat} {a b : Pt} (hi : l[i]? = some a) (hj : l[j]? = some b) (hij : i ≠ j) : ¬ cg a.x b.x := by
  obtain ⟨hi1, rfl⟩ := List.getElem?_eq_some_iff.1 hi
  obtain ⟨hj1, rfl⟩ := List.getElem?_eq_some_iff.1 hj
  rcases Nat.lt_or_gt_of_ne hij with e | e
  · exact List.pairwise_iff_getElem.1 h i j hi1 hj1 e
  · exact fun c => List.pairwise_iff_getElem.1 h j i hj1 hi1 e c.symm
theorem Dis.xs {l : List Pt} (h : Dis l) : (l.map Pt.x).Pairwise fun a b => ¬ cg a b := List.pairwise_map.2 h
/-- it goes through the points -/
def Thru (f : Int → Int) (l : List Pt) : Prop := ∀ s ∈ l, cg (f s.x) s.y
theorem thru_uniq {f g : Int → Int} {l : List Pt} (hf : IsP l.length f) (hg : IsP l.length g) (hd : Dis l) (tf : Thru f l) (tg : Thru g l) (x : Int) : cg (f x) (g x) :=
  hf.uniq hg (l := l.map Pt.x) (by simp) hd.xs (fun y hy => by
    obtain ⟨s, hs, rfl⟩ := List.mem_map.1 hy
    exact (tf s hs).trans (tg s hs).symm) x

/-! ### Lagrange -/
def lagT (l : List Pt) (i : Nat) (x : Int) : Int := match l[i]? with
  | some a => a.y * pxs (l.eraseIdx i) x * invp (pxs (l.eraseIdx i) a.x)
  | none => 0
def lagS (l : List Pt) (x : Int) : Nat → Int
  | 0 => 0
  | m + 1 => lagS l x m + lagT l m x
def lag (l : List Pt) (x : Int) : Int := lagS l x l.length
theorem lagT_P (l : List Pt) (i : Nat) : IsP l.length (lagT l i) := by
  cases h : l[i]? with
  | none => exact (IsP.zero.mono (Nat.zero_le _)).congr fun x => cg.of (by unfold lagT; rw [h])
  | some a =>
    have hi := (List.getElem?_eq_some_iff.1 h).1
    have hp := pxs_P (l.eraseIdx i)
    rw [List.length_eraseIdx_of_lt hi, show l.length - 1 + 1 = l.length by omega] at hp
    refine (hp.smul (a.y * invp (pxs (l.eraseIdx i) a.x))).congr fun x => cg.of ?_
    unfold lagT
    rw [h]
    dsimp only
    rw [Int.mul_right_comm]
theorem lagS_P (l : List Pt) : ∀ m, IsP l.length fun x => lagS l x m
  | 0 => IsP.zero.mono (Nat.zero_le _)
  | m + 1 => (lagS_P l m).add (lagT_P l m)
theorem lag_P (l : List Pt) : IsP l.length (lag l) := lagS_P l l.length
theorem mem_eraseIdx {l : List Pt} {i j : Nat} {b : Pt} (hj : l[j]? = some b) (hij : i ≠ j) : b ∈ l.eraseIdx i := by
  rw [List.mem_eraseIdx_iff_getElem?]
  exact ⟨j, fun e => hij e.symm, hj⟩
theorem lagT_at {l : List Pt} (hd : Dis l) {i j : Nat} {b : Pt} (hj : l[j]? = some b) : cg (lagT l i b.x) (if i = j then b.y else 0) := by
  by_cases e : i = j
  · subst e
    rw [if_pos rfl]
    unfold lagT
    rw [hj]
    dsimp only
    have hne : ¬ cg (pxs (l.eraseIdx i) b.x) 0 := pxs_ne fun s hs => by
      rw [List.mem_eraseIdx_iff_getElem?] at hs
      obtain ⟨k, hk, hs⟩ := hs
      exact hd.ne hj hs fun e => hk e.symm
    have := (cg.refl b.y).mul (invp_mul hne)
    rw [Int.mul_one, ← Int.mul_assoc] at this
    exact this
  · rw [if_neg e]
    unfold lagT
    split
    · rename_i a ha
      have h0 := pxs_0 (x := b.x) (l := l.eraseIdx i) ⟨b, mem_eraseIdx hj e, cg.refl _⟩
      have := ((cg.refl a.y).mul h0).mul (cg.refl (invp (pxs (l.eraseIdx i) a.x)))
      rwa [Int.mul_zero, Int.zero_mul] at this
    · exact cg.refl 0
theorem lagS_at {l : List Pt} (hd : Dis l) {j : Nat} {b : Pt} (hj : l[j]? = some b) : ∀ m, cg (lagS l b.x m) (if j < m then b.y else 0)
  | 0 => cg.of (by rw [if_neg (by omega)]; rfl)
  | m + 1 => by
    have := (lagS_at hd hj m).add (lagT_at hd (i := m) hj)
    refine this.trans (cg.of ?_)
    by_cases e : j < m
    · rw [if_pos e, if_neg (by omega), if_pos (by omega), Int.add_zero]
    · by_cases e' : m = j
      · rw [if_neg e, if_pos e', if_pos (by omega), Int.zero_add]
      · rw [if_neg e, if_neg e', if_neg (by omega), Int.add_zero]
theorem lag_thru {l : List Pt} (hd : Dis l) : Thru (lag l) l := fun s hs => by
  obtain ⟨j, hj⟩ := List.getElem?_of_mem hs
  have := lagS_at hd hj l.length
  rwa [if_pos (List.getElem?_eq_some_iff.1 hj).1] at this

/-! ### Newton -/
def xAt (l : List Pt) (i : Nat) : Int := ((l[i]?).map Pt.x).getD 0
def yAt (l : List Pt) (i : Nat) : Int := ((l[i]?).map Pt.y).getD 0
def dd (l : List Pt) : Nat → Nat → Int
  | 0, i => yAt l i
  | s + 1, i => (dd l s i - dd l s (i - 1)) * invp (xAt l i - xAt l (i - (s + 1)))
def newt (l : List Pt) (x : Int) : Nat → Int
  | 0 => 0
  | m + 1 => newt l x m + dd l m m * pxs (l.take m) x
theorem newt_P (l : List Pt) : ∀ m, m ≤ l.length → IsP m fun x => newt l x m
  | 0, _ => IsP.zero
  | m + 1, h => by
    have hp := pxs_P (l.take m)
    rw [List.length_take, show min m l.length = m by omega] at hp
    exact ((newt_P l m (by omega)).mono (Nat.le_succ m)).add (hp.smul _)
theorem xAt_some {l : List Pt} {i : Nat} {a : Pt} (h : l[i]? = some a) : xAt l i = a.x ∧ yAt l i = a.y := by
  simp [xAt, yAt, h]
theorem xAt_ne {l : List Pt} (hd : Dis l) {i j : Nat} (hi : i < l.length) (hj : j < l.length) (hij : i ≠ j) : ¬ cg (xAt l i) (xAt l j) := by
  have h1 := List.getElem?_eq_getElem hi
  have h2 := List.getElem?_eq_getElem hj
  rw [(xAt_some h1).1, (xAt_some h2).1]
  exact hd.ne h1 h2 hij
theorem dd_poly {l : List Pt} (hd : Dis l) : ∀ (s i : Nat), s ≤ i → i < l.length → ∃ f, IsL s f (dd l s i) ∧ ∀ j, i - s ≤ j → j ≤ i → cg (f (xAt l j)) (yAt l j)
  | 0, i, _, hi => ⟨fun _ => yAt l i, (IsP.zero).congr fun x => cg.of (by rw [dd, Int.pow_zero, Int.mul_one, Int.sub_self]), fun j h1 h2 => by rw [show j = i by omega]; exact cg.refl _⟩
  | s + 1, i, hs, hi => by
    obtain ⟨f, f1, f2⟩ := dd_poly hd s i (by omega) hi
    obtain ⟨g, g1, g2⟩ := dd_poly hd s (i - 1) (by omega) (by omega)
    have hne : ¬ cg (xAt l i - xAt l (i - (s + 1))) 0 := fun e => xAt_ne hd hi (by omega) (by omega) (cg.sub0.2 e)
    have hv := invp_mul hne
    generalize hD : xAt l i - xAt l (i - (s + 1)) = D at hv
    have hdd : dd l (s + 1) i = (dd l s i - dd l s (i - 1)) * invp D := by rw [dd, hD]
    generalize invp D = V at hv hdd
    refine ⟨fun x => V * ((x - xAt l (i - (s + 1))) * f x) + (-V) * ((x - xAt l i) * g x), ?_, fun j h1 h2 => ?_⟩
    · refine IsL.congr (IsL.comb V (-V) (IsL.lin (xAt l (i - (s + 1))) f1) (IsL.lin (xAt l i) g1)) (fun x => cg.refl _) (cg.of ?_)
      rw [hdd]
      grind
    · by_cases e1 : j = i
      · subst e1
        have h3 := f2 j (by omega) (Nat.le_refl _)
        have : cg (V * (D * f (xAt l j))) (V * (D * yAt l j)) := (cg.refl V).mul ((cg.refl D).mul h3)
        have h4 := hv.mul (cg.refl (yAt l j))
        rw [Int.one_mul] at h4
        refine ((cg.of ?_).trans this).trans ((cg.of ?_).trans h4)
        · dsimp only
          rw [hD]
          grind
        · grind
      · by_cases e2 : j = i - (s + 1)
        · subst e2
          have h3 := g2 (i - (s + 1)) (by omega) (by omega)
          have : cg (V * (D * g (xAt l (i - (s + 1))))) (V * (D * yAt l (i - (s + 1)))) := (cg.refl V).mul ((cg.refl D).mul h3)
          have h4 := hv.mul (cg.refl (yAt l (i - (s + 1))))
          rw [Int.one_mul] at h4
          refine ((cg.of ?_).trans this).trans ((cg.of ?_).trans h4)
          · dsimp only
            rw [← hD]
            grind
          · grind
        · have h3 := f2 j (by omega) h2
          have h5 := g2 j (by omega) (by omega)
          have h4 := hv.mul (cg.refl (yAt l j))
          rw [Int.one_mul] at h4
          have h6 : cg (V * ((xAt l j - xAt l (i - (s + 1))) * f (xAt l j)) + (-V) * ((xAt l j - xAt l i) * g (xAt l j))) (V * ((xAt l j - xAt l (i - (s + 1))) * yAt l j) + (-V) * ((xAt l j - xAt l i) * yAt l j)) :=
            ((cg.refl V).mul ((cg.refl _).mul h3)).add ((cg.refl (-V)).mul ((cg.refl _).mul h5))
          refine h6.trans ((cg.of ?_).trans h4)
          rw [← hD]
          grind
theorem newt_at {l : List Pt} (hd : Dis l) : ∀ m, m ≤ l.length → ∀ j, j < m → cg (newt l (xAt l j) m) (yAt l j)
  | 0, _, j, hj => by omega
  | m + 1, hm, j, hj => by
    obtain ⟨f, f1, f2⟩ := dd_poly hd m m (Nat.le_refl _) (by omega)
    have ih := newt_at hd m (by omega)
    have htl : (l.take m).length = m := by rw [List.length_take]; omega
    have hmem : ∀ s ∈ l.take m, ∃ k, k < m ∧ s.x = xAt l k ∧ s.y = yAt l k := fun s hs => by
      obtain ⟨k, hk⟩ := List.getElem?_of_mem hs
      have hkm : k < m := by
        have := (List.getElem?_eq_some_iff.1 hk).1
        omega
      rw [List.getElem?_take, if_pos hkm] at hk
      exact ⟨k, hkm, (xAt_some hk).1.symm, (xAt_some hk).2.symm⟩
    -- f less the form so far vanishes at the first m places, and has dd m m at the top
    have hp := pxs_L (l.take m)
    rw [htl] at hp
    have h1 : IsP m fun x => f x - newt l x m - dd l m m * pxs (l.take m) x := by
      have a1 : IsP m fun x => f x - dd l m m * x ^ m := f1
      have a2 := newt_P l m (by omega)
      have a3 : IsP m fun x => pxs (l.take m) x - 1 * x ^ m := hp
      exact ((a1.sub a2).sub (a3.smul (dd l m m))).congr fun x => cg.of (by grind)
    have h2 := h1.uniq (IsP.zero.mono (Nat.zero_le m)) (l := (l.take m).map Pt.x) (by simp; omega) (hd.take m).xs (fun y hy => by
      obtain ⟨s, hs, rfl⟩ := List.mem_map.1 hy
      obtain ⟨k, hk, hx, hy⟩ := hmem s hs
      have b1 := f2 k (by omega) (by omega)
      have b2 := ih k hk
      have b3 := pxs_0 (x := s.x) (l := l.take m) ⟨s, hs, cg.refl _⟩
      have b4 := (b1.sub b2).sub ((cg.refl (dd l m m)).mul b3)
      rw [← hx] at b4
      refine b4.trans (cg.of ?_)
      omega) (xAt l j)
    have h3 : cg (newt l (xAt l j) (m + 1)) (f (xAt l j)) := by
      rw [newt]
      refine (cg.sub0.2 (?_ : cg (f (xAt l j) - (newt l (xAt l j) m + dd l m m * pxs (l.take m) (xAt l j))) 0)).symm
      exact (cg.of (by omega)).trans h2
    exact h3.trans (f2 j (by omega) (by omega))
theorem newt_thru {l : List Pt} (hd : Dis l) : Thru (fun x => newt l x l.length) l := fun s hs => by
  obtain ⟨j, hj⟩ := List.getElem?_of_mem hs
  have := newt_at hd l.length (Nat.le_refl _) j (List.getElem?_eq_some_iff.1 hj).1
  rwa [(xAt_some hj).1, (xAt_some hj).2] at this
theorem newt_lag {l : List Pt} (hd : Dis l) (x : Int) : cg (newt l x l.length) (lag l x) := thru_uniq (newt_P l l.length (Nat.le_refl _)) (lag_P l) hd (newt_thru hd) (lag_thru hd) x
end Go.Dec
