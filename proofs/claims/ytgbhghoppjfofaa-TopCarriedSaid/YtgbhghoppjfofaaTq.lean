/-
  The plain law of a queue that serves the earliest due step first: what it took on is gone in time. No program in sight.
-/
namespace Go.Top
set_option maxHeartbeats 400000

structure Wt where
  ev : Int
  net : Int
  left : Int
  due : Int
deriving DecidableEq

/-- what of network n is due by d -/
def DD (n d : Int) : List Wt → Int
  | [] => 0
  | y :: r => (if y.net = n ∧ y.due ≤ d then y.left else 0) + DD n d r
theorem DD_append (n d : Int) : ∀ a b : List Wt, DD n d (a ++ b) = DD n d a + DD n d b
  | [], b => by simp [DD]
  | y :: r, b => by
    simp only [List.cons_append, DD, DD_append n d r b]
    omega
theorem DD_nonneg {n d : Int} : ∀ {l : List Wt}, (∀ y ∈ l, 0 ≤ y.left) → 0 ≤ DD n d l
  | [], _ => by simp [DD]
  | y :: r, h => by
    have h1 := h y (by simp)
    have h2 := DD_nonneg (n := n) (d := d) (l := r) fun z hz => h z (by simp [hz])
    simp only [DD]
    split <;> omega
theorem DD_mem {n d : Int} : ∀ {l : List Wt}, (∀ y ∈ l, 0 ≤ y.left) → ∀ y ∈ l, y.net = n → y.due ≤ d → y.left ≤ DD n d l
  | z :: r, h, y, hy, hn, hd => by
    have h1 := h z (by simp)
    have h3 : ∀ x ∈ r, 0 ≤ x.left := fun x hx => h x (by simp [hx])
    have h2 := DD_nonneg (n := n) (d := d) (l := r) h3
    simp only [DD]
    rcases List.mem_cons.1 hy with e | e
    · subst e
      rw [if_pos ⟨hn, hd⟩]
      omega
    · have := DD_mem h3 y e hn hd
      split <;> omega
theorem DD_filter (n d : Int) : ∀ l : List Wt, DD n d (l.filter fun y => decide (y.left ≠ 0)) = DD n d l
  | [] => rfl
  | y :: r => by
    by_cases h : y.left = 0
    · rw [List.filter_cons_of_neg (by simp [h])]
      simp only [DD, DD_filter n d r, h]
      split <;> omega
    · rw [List.filter_cons_of_pos (by simp [h])]
      simp only [DD, DD_filter n d r]
/-- the steps with service before step i -/
def U : List Bool → Nat → Nat
  | [], _ => 0
  | _, 0 => 0
  | b :: r, i + 1 => (if b then 1 else 0) + U r i
theorem U_succ : ∀ (u : List Bool) (i : Nat) (b : Bool), u[i]? = some b → U u (i + 1) = U u i + (if b then 1 else 0)
  | [], i, b, h => by simp at h
  | x :: r, 0, b, h => by
    simp at h
    subst h
    cases r <;> simp [U]
  | x :: r, i + 1, b, h => by
    have := U_succ r i b (by simpa using h)
    simp only [U] at this ⊢
    omega
theorem U_le : ∀ (u : List Bool) (i : Nat), U u i ≤ i
  | [], i => by simp [U]
  | x :: r, 0 => by simp [U]
  | x :: r, i + 1 => by
    have := U_le r i
    simp only [U]
    split <;> omega
theorem U_one (u : List Bool) (i : Nat) (h : i < u.length) : U u i ≤ U u (i + 1) ∧ U u (i + 1) ≤ U u i + 1 := by
  have := U_succ u i u[i] (List.getElem?_eq_getElem h)
  split at this <;> omega
theorem U_mono (u : List Bool) {i j : Nat} (h : i ≤ j) (hj : j ≤ u.length) : U u i ≤ U u j ∧ U u j ≤ U u i + (j - i) := by
  induction j with
  | zero =>
    have : i = 0 := by omega
    subst this
    omega
  | succ j ih =>
    by_cases e : i = j + 1
    · subst e
      omega
    · have h1 := ih (by omega) (by omega)
      have h2 := U_one u j (by omega)
      omega
/-- the steps without service before step i -/
def Z (u : List Bool) (i : Nat) : Nat := i - U u i
/-- each window of steps has at most so many without service -/
def Alw (u : List Bool) (win down : Int) : Prop := ∀ i, i ≤ u.length → (0 < down → (Z u i : Int) - Z u (i - win.toNat) ≤ down) ∧ (¬ 0 < down → Z u i = 0)
theorem Z_le (u : List Bool) (i : Nat) : Z u i + U u i = i := by
  have := U_le u i
  unfold Z
  omega
theorem stretch (u : List Bool) (W D : Nat) (hW : 0 < W) (h : ∀ i, i ≤ u.length → Z u i - Z u (i - W) ≤ D) (t : Nat) : ∀ n d, d ≤ n → t ≤ d → d ≤ u.length → Z u d - Z u t ≤ (d - t) / W * D + min ((d - t) % W) D := by
  intro n
  induction n with
  | zero =>
    intro d h1 h2 h3
    have : d = t := by omega
    subst this
    omega
  | succ n ih =>
    intro d h1 h2 h3
    have ha := h d h3
    have hd := Z_le u d
    have ht := Z_le u t
    have hm := U_mono u h2 h3
    by_cases hlt : d - t < W
    · rw [Nat.div_eq_of_lt hlt, Nat.mod_eq_of_lt hlt, Nat.zero_mul, Nat.zero_add]
      have hs := Z_le u (d - W)
      have hq := U_mono u (i := d - W) (j := t) (by omega) (by omega)
      omega
    · have h4 := ih (d - W) (by omega) (by omega) (by omega)
      have e1 : d - t = (d - W - t) + W := by omega
      rw [e1, Nat.add_div_right _ hW, Nat.add_mod_right, Nat.succ_mul]
      omega
/-- the most steps without service in T of them -/
def dn (win down T : Int) : Int := if down > 0 then T / win * down + min (T % win) down else 0
theorem dn_ups {u : List Bool} {win down : Int} (h : Alw u win down) (hw : 0 < down → 0 < win) {t d : Nat} (htd : t ≤ d) (hd : d ≤ u.length) : (d : Int) - t - dn win down ((d : Int) - t) ≤ (U u d : Int) - U u t := by
  have hzd := Z_le u d
  have hzt := Z_le u t
  have hm := U_mono u htd hd
  unfold dn
  split
  · rename_i hp
    have hW := hw hp
    obtain ⟨W, rfl⟩ := Int.eq_ofNat_of_zero_le (Int.le_of_lt hW)
    obtain ⟨D, rfl⟩ := Int.eq_ofNat_of_zero_le (Int.le_of_lt hp)
    have := stretch u W D (by omega) (fun i hi => by
      have := (h i hi).1 hp
      simp only [Int.toNat_natCast] at this
      omega) t d d (Nat.le_refl _) htd hd
    have e1 : ((d : Int) - t) = ((d - t : Nat) : Int) := by omega
    rw [e1]
    rw [← Int.natCast_ediv, ← Int.natCast_emod, ← Int.natCast_mul]
    omega
  · rename_i hp
    have := (h d hd).2 hp
    have h2 := (h t (by omega)).2 hp
    omega
def MP : Int := 4503599627370496
/-- what a network gives at least from now until due -/
def gv (rate win down now due : Int) : Int :=
  if due < now then 0 else
    let s := due - now - dn win down (due - now)
    if 0 < s ∧ MP / s < rate then MP else rate * s
theorem gv_le {u : List Bool} {rate win down : Int} (h : Alw u win down) (hw : 0 < down → 0 < win) (hr : 0 ≤ rate) {t d : Nat} (htd : t ≤ d) (hd : d ≤ u.length) : gv rate win down t d ≤ rate * ((U u d : Int) - U u t) := by
  have h1 := dn_ups h hw htd hd
  unfold gv
  rw [if_neg (by omega)]
  dsimp only
  generalize (d : Int) - t - dn win down ((d : Int) - t) = s at *
  have h2 := Int.mul_le_mul_of_nonneg_left h1 hr
  split
  · rename_i hc
    obtain ⟨hs, hc⟩ := hc
    refine Int.le_trans ?_ h2
    have h3 : (MP / s + 1) * s ≤ rate * s := Int.mul_le_mul_of_nonneg_right (by omega) (Int.le_of_lt hs)
    have h4 := Int.lt_mul_ediv_self_add (x := MP) hs
    rw [Int.add_mul, Int.one_mul, Int.mul_comm] at h3
    omega
  · exact h2

/-! ### what is waiting -/
/-- as long as the service is as it was allowed, what is due can be served -/
def Bd (rate : Int) (u : List Bool) (n : Int) (t : Nat) (l : List Wt) : Prop := ∀ y ∈ l, y.net = n → y.due ≤ u.length → DD n y.due l ≤ rate * ((U u y.due.toNat : Int) - U u t)
def Pos (l : List Wt) : Prop := ∀ y ∈ l, 1 ≤ y.left ∧ 0 ≤ y.due
theorem Pos.nn {l : List Wt} (h : Pos l) : ∀ y ∈ l, 0 ≤ y.left := fun y hy => by
  have := (h y hy).1
  omega
theorem Bd.late {rate : Int} {u : List Bool} {n : Int} {t : Nat} {l : List Wt} (h : Bd rate u n t l) (hp : Pos l) (hr : 0 ≤ rate) (ht : t ≤ u.length) : ∀ y ∈ l, y.net = n → y.due ≤ u.length → (t : Int) < y.due := fun y hy hn hd => by
  have h1 := h y hy hn hd
  have h2 := DD_mem (d := y.due) hp.nn y hy hn (Int.le_refl _)
  have h3 := (hp y hy).1
  by_cases hlt : (t : Int) < y.due
  · exact hlt
  · have h4 := (U_mono u (i := y.due.toNat) (j := t) (by omega) ht).1
    have h5 := Int.mul_le_mul_of_nonneg_left (show (U u y.due.toNat : Int) - U u t ≤ 0 by omega) hr
    rw [Int.mul_zero] at h5
    omega
/-- what a step of service leaves -/
inductive All2 (R : Wt → Wt → Prop) : List Wt → List Wt → Prop
  | nil : All2 R [] []
  | cons {x y : Wt} {a b : List Wt} : R x y → All2 R a b → All2 R (x :: a) (y :: b)
theorem All2.fwd {R : Wt → Wt → Prop} {a b : List Wt} (h : All2 R a b) : ∀ x ∈ a, ∃ y ∈ b, R x y := by
  induction h with
  | nil => intro x hx; simp at hx
  | cons hxy _ ih =>
    intro x hx
    rcases List.mem_cons.1 hx with e | e
    · subst e
      exact ⟨_, by simp, hxy⟩
    · obtain ⟨y, hy, hr⟩ := ih x e
      exact ⟨y, by simp [hy], hr⟩
theorem All2.bwd {R : Wt → Wt → Prop} {a b : List Wt} (h : All2 R a b) : ∀ y ∈ b, ∃ x ∈ a, R x y := by
  induction h with
  | nil => intro x hx; simp at hx
  | cons hxy _ ih =>
    intro x hx
    rcases List.mem_cons.1 hx with e | e
    · subst e
      exact ⟨_, by simp, hxy⟩
    · obtain ⟨y, hy, hr⟩ := ih x e
      exact ⟨y, by simp [hy], hr⟩
def Low (n : Int) (y y' : Wt) : Prop := y'.ev = y.ev ∧ y'.net = y.net ∧ y'.due = y.due ∧ 0 ≤ y'.left ∧ y'.left ≤ y.left ∧ (y.net ≠ n → y'.left = y.left)
structure Served (rate n : Int) (l : List Wt) (done : List Int) (left : List Wt) : Prop where
  ex : ∃ l', All2 (Low n) l l' ∧ (∀ d, DD n d l' ≤ max 0 (DD n d l - rate)) ∧ left = l'.filter (fun y => decide (y.left ≠ 0)) ∧ (∀ y ∈ l', y.net = n → y.left = 0 → y.ev ∈ done)
theorem DD_low {n m d : Int} {a b : List Wt} (h : All2 (Low n) a b) (hnm : m ≠ n) : DD m d b = DD m d a := by
  induction h with
  | nil => rfl
  | cons hxy _ ih =>
    rename_i x y _ _ _
    obtain ⟨h1, h2, h3, h4, h5, h6⟩ := hxy
    simp only [DD, ih, h2, h3]
    by_cases e : x.net = m
    · rw [h6 (by omega)]
    · simp [e]
theorem Served.pos {rate n : Int} {l left : List Wt} {done : List Int} (h : Served rate n l done left) (hp : Pos l) : Pos left := by
  obtain ⟨l', h1, _, rfl, _⟩ := h.ex
  intro y hy
  simp only [List.mem_filter, decide_eq_true_eq] at hy
  obtain ⟨x, hx, hl⟩ := h1.bwd y hy.1
  have := hp x hx
  unfold Low at hl
  omega
/-- service at step t -/
theorem Served.bd {rate n : Int} {l left : List Wt} {done : List Int} (h : Served rate n l done left) (hp : Pos l) {u : List Bool} {t : Nat} (hb : Bd rate u n t l) (hu : u[t]? = some true) : Bd rate u n (t + 1) left := by
  obtain ⟨l', h1, h2, rfl, _⟩ := h.ex
  have hs := U_succ u t true hu
  simp only [if_true] at hs
  intro y hy hn hd
  have hy0 := hy
  simp only [List.mem_filter, decide_eq_true_eq] at hy
  obtain ⟨x, hx, hl⟩ := h1.bwd y hy.1
  have hx1 := hb x hx (by unfold Low at hl; omega) (by unfold Low at hl; omega)
  rw [DD_filter]
  have h3 := h2 y.due
  have hnn : ∀ z ∈ l', 0 ≤ z.left := fun z hz => by
    obtain ⟨x, hx, hl⟩ := h1.bwd z hz
    exact hl.2.2.2.1
  have h4 := DD_mem (d := y.due) hnn y hy.1 hn (Int.le_refl _)
  have h5 := hnn y hy.1
  have e : x.due = y.due := hl.2.2.1.symm
  rw [e] at hx1
  have e2 : rate * ((U u y.due.toNat : Int) - U u (t + 1)) = rate * ((U u y.due.toNat : Int) - U u t) - rate := by
    rw [hs, show ((U u y.due.toNat : Int) - ((U u t + 1 : Nat) : Int)) = ((U u y.due.toNat : Int) - U u t) - 1 by omega, Int.mul_sub, Int.mul_one]
  rw [e2]
  omega
/-- service for another network -/
theorem Served.other {rate rate' n m : Int} {l left : List Wt} {done : List Int} (h : Served rate n l done left) (hnm : m ≠ n) {u : List Bool} {t : Nat} (hb : Bd rate' u m t l) : Bd rate' u m t left := by
  obtain ⟨l', h1, h2, rfl, _⟩ := h.ex
  intro y hy hn hd
  simp only [List.mem_filter, decide_eq_true_eq] at hy
  obtain ⟨x, hx, hl⟩ := h1.bwd y hy.1
  have hx1 := hb x hx (by unfold Low at hl; omega) (by unfold Low at hl; omega)
  rw [DD_filter, DD_low h1 hnm]
  have e : x.due = y.due := hl.2.2.1.symm
  rwa [e] at hx1
/-- no service -/
theorem Bd.down {rate n : Int} {l : List Wt} {u : List Bool} {t : Nat} (hb : Bd rate u n t l) (hu : u[t]? = some false) : Bd rate u n (t + 1) l := by
  have hs := U_succ u t false hu
  intro y hy hn hd
  have := hb y hy hn hd
  rwa [show U u (t + 1) = U u t by simpa using hs]
/-- an entry is taken on -/
theorem Bd.put {rate win down n : Int} {u : List Bool} {t : Nat} {l : List Wt} {w : Wt} (hp : Pos (l ++ [w])) (ha : Alw u win down) (hw : 0 < down → 0 < win) (hr : 0 ≤ rate) (hn : w.net = n)
    (h : ∀ y ∈ l ++ [w], y.net = n → DD n y.due (l ++ [w]) ≤ gv rate win down t y.due) : Bd rate u n t (l ++ [w]) := fun y hy hn hd => by
  have h1 := h y hy hn
  have h2 := DD_mem (d := y.due) hp.nn y hy hn (Int.le_refl _)
  have h3 := hp y hy
  by_cases hlt : y.due < t
  · unfold gv at h1
    rw [if_pos hlt] at h1
    omega
  · have h4 := gv_le ha hw hr (t := t) (d := y.due.toNat) (by omega) (by omega)
    rw [show ((y.due.toNat : Nat) : Int) = y.due by omega] at h4
    exact Int.le_trans h1 h4
theorem Bd.put_other {rate n : Int} {u : List Bool} {t : Nat} {l : List Wt} {w : Wt} (hb : Bd rate u n t l) (hn : w.net ≠ n) : Bd rate u n t (l ++ [w]) := fun y hy hn' hd => by
  rcases List.mem_append.1 hy with e | e
  · rw [DD_append]
    have := hb y e hn' hd
    simp [DD, hn]
    exact this
  · simp at e
    subst e
    exact absurd hn' hn

/-! ### what has gone -/
/-- when an event has gone to a network: the first time, or -1 -/
def whn : List (Int × Int × Int) → Int → Int → Int
  | [], _, _ => -1
  | g :: r, e, n => if g.1 = e ∧ g.2.1 = n then g.2.2 else whn r e n
theorem whn_app (e n t : Int) : ∀ (a b : List (Int × Int × Int)), (∀ g ∈ a, 0 ≤ g.2.2) → 0 ≤ whn a e n → whn (a ++ b) e n = whn a e n
  | [], b, _, h => by simp [whn] at h
  | g :: r, b, hg, h => by
    simp only [List.cons_append, whn] at h ⊢
    split
    · rfl
    · rename_i hc
      rw [if_neg hc] at h
      exact whn_app e n t r b (fun x hx => hg x (by simp [hx])) h
theorem whn_in {e n t : Int} : ∀ {a : List (Int × Int × Int)}, (∀ g ∈ a, 0 ≤ g.2.2 ∧ g.2.2 ≤ t) → (∃ g ∈ a, g.1 = e ∧ g.2.1 = n) → 0 ≤ whn a e n ∧ whn a e n ≤ t
  | [], _, h => by obtain ⟨g, hg, _⟩ := h; simp at hg
  | g :: r, hg, h => by
    simp only [whn]
    split
    · exact hg g (by simp)
    · rename_i hc
      obtain ⟨x, hx, hxe⟩ := h
      rcases List.mem_cons.1 hx with e' | e'
      · subst e'
        exact absurd hxe hc
      · exact whn_in (fun x hx => hg x (by simp [hx])) ⟨x, e', hxe⟩
/-- each entry that was taken on is waiting, or has gone in time -/
def Tk (n : Int) (len : Nat) (taken waits : List Wt) (gone : List (Int × Int × Int)) : Prop :=
  ∀ w ∈ taken, w.net = n → w.due ≤ len → (∃ y ∈ waits, y.ev = w.ev ∧ y.net = w.net ∧ y.due = w.due) ∨ (0 ≤ whn gone w.ev w.net ∧ whn gone w.ev w.net < w.due)
theorem Tk.put {n : Int} {len : Nat} {taken waits : List Wt} {gone : List (Int × Int × Int)} (h : Tk n len taken waits gone) (w : Wt) : Tk n len (taken ++ [w]) (waits ++ [w]) gone := fun x hx hn hd => by
  rcases List.mem_append.1 hx with e | e
  · rcases h x e hn hd with ⟨y, hy, hh⟩ | hh
    · exact .inl ⟨y, by simp [hy], hh⟩
    · exact .inr hh
  · simp at e
    subst e
    exact .inl ⟨x, by simp, rfl, rfl, rfl⟩
theorem Tk.served {rate n m : Int} {u : List Bool} {t : Nat} {taken waits left : List Wt} {gone : List (Int × Int × Int)} {done : List Int} (h : Tk m u.length taken waits gone) (hs : Served rate n waits done left) (hp : Pos waits)
    (hg : ∀ g ∈ gone, 0 ≤ g.2.2 ∧ g.2.2 ≤ t) (hl : ∀ y ∈ waits, y.net = m → y.due ≤ u.length → (t : Int) < y.due) : Tk m u.length taken left (gone ++ done.map fun e => (e, n, (t : Int))) := fun w hw hn hd => by
  obtain ⟨l', h1, _, rfl, h3⟩ := hs.ex
  have hg' : ∀ g ∈ gone ++ done.map (fun e => (e, n, (t : Int))), 0 ≤ g.2.2 ∧ g.2.2 ≤ t := fun g hg1 => by
    rcases List.mem_append.1 hg1 with e | e
    · exact hg g e
    · obtain ⟨x, _, rfl⟩ := List.mem_map.1 e
      dsimp only
      omega
  rcases h w hw hn hd with ⟨y, hy, e1, e2, e3⟩ | ⟨h4, h5⟩
  · obtain ⟨y', hy', hlow⟩ := h1.fwd y hy
    obtain ⟨f1, f2, f3, f4, f5, f6⟩ := hlow
    by_cases h0 : y'.left = 0
    · have hyn : y.net = n := by
        apply Decidable.byContradiction
        intro hc
        have := f6 hc
        have := (hp y hy).1
        omega
      have hdone := h3 y' hy' (by omega) h0
      have hlt := hl y hy (by omega) (by omega)
      have := whn_in (e := w.ev) (n := w.net) hg' ⟨(y'.ev, n, (t : Int)), by simp [hdone], by dsimp only; omega, by dsimp only; omega⟩
      exact .inr ⟨this.1, by omega⟩
    · exact .inl ⟨y', by simp [hy', h0], by omega, by omega, by omega⟩
  · refine .inr ?_
    rw [whn_app _ _ 0 _ _ (fun g hh => (hg g hh).1) h4]
    exact ⟨h4, h5⟩
theorem Tk.done {rate n : Int} {u : List Bool} {taken waits : List Wt} {gone : List (Int × Int × Int)} (h : Tk n u.length taken waits gone) (hb : Bd rate u n u.length waits) (hp : Pos waits) (hr : 0 ≤ rate) :
    ∀ w ∈ taken, w.net = n → w.due ≤ u.length → 0 ≤ whn gone w.ev w.net ∧ whn gone w.ev w.net < w.due := fun w hw hn hd => by
  rcases h w hw hn hd with ⟨y, hy, e1, e2, e3⟩ | h
  · have := hb.late hp hr (Nat.le_refl _) y hy (by omega) (by omega)
    omega
  · exact h

/-! ### the order of service -/
def SL (g : Wt → Int) : List Wt → Int
  | [] => 0
  | y :: r => g y + SL g r
def at0 (g : Wt → Int) (l : List Wt) (i : Nat) : Int := match l[i]? with | some y => g y | none => 0
def SI (g : Wt → Int) (l : List Wt) : List Nat → Int
  | [] => 0
  | i :: r => at0 g l i + SI g l r
theorem SI_perm (g : Wt → Int) (l : List Wt) {a b : List Nat} (h : List.Perm a b) : SI g l a = SI g l b := by
  induction h with
  | nil => rfl
  | cons x _ ih => simp only [SI, ih]
  | swap x y l => simp only [SI]; omega
  | trans _ _ h1 h2 => omega
/-- the indices of what is for network n, from k on -/
def idx (n : Int) : Nat → List Wt → List Nat
  | _, [] => []
  | k, y :: r => if y.net = n then k :: idx n (k + 1) r else idx n (k + 1) r
theorem idx_append (n : Int) (y : Wt) : ∀ (a : List Wt) (k : Nat), idx n k (a ++ [y]) = idx n k a ++ (if y.net = n then [k + a.length] else [])
  | [], k => by simp [idx]
  | x :: r, k => by
    have := idx_append n y r (k + 1)
    simp only [List.cons_append, idx, this, List.length_cons]
    rw [show k + 1 + r.length = k + (r.length + 1) by omega]
    split <;> simp
theorem idx_mem {n : Int} {j : Nat} : ∀ {r : List Wt} {k : Nat}, j ∈ idx n k r ↔ ∃ y, k ≤ j ∧ r[j - k]? = some y ∧ y.net = n
  | [], k => by simp [idx]
  | x :: r, k => by
    have ih := idx_mem (n := n) (j := j) (r := r) (k := k + 1)
    have key : (∃ y, k ≤ j ∧ (x :: r)[j - k]? = some y ∧ y.net = n) ↔ (j = k ∧ x.net = n) ∨ ∃ y, k + 1 ≤ j ∧ r[j - (k + 1)]? = some y ∧ y.net = n := by
      constructor
      · rintro ⟨y, h1, h2, h3⟩
        by_cases e : j = k
        · subst e
          simp at h2
          subst h2
          exact .inl ⟨rfl, h3⟩
        · refine .inr ⟨y, by omega, ?_, h3⟩
          rw [show j - k = (j - (k + 1)) + 1 by omega] at h2
          simpa using h2
      · rintro (⟨rfl, h⟩ | ⟨y, h1, h2, h3⟩)
        · exact ⟨x, Nat.le_refl _, by simp, h⟩
        · refine ⟨y, by omega, ?_, h3⟩
          rw [show j - k = (j - (k + 1)) + 1 by omega]
          simpa using h2
    rw [key, ← ih]
    simp only [idx]
    split <;> rename_i e <;> simp [e]
theorem idx_nodup {n : Int} : ∀ (r : List Wt) (k : Nat), (idx n k r).Nodup
  | [], k => by simp [idx]
  | x :: r, k => by
    have ih := idx_nodup (n := n) r (k + 1)
    simp only [idx]
    split
    · refine List.nodup_cons.2 ⟨fun h => ?_, ih⟩
      obtain ⟨y, h1, _⟩ := idx_mem.1 h
      omega
    · exact ih
theorem SI_idx (g : Wt → Int) (n : Int) : ∀ (r pre : List Wt), SI g (pre ++ r) (idx n pre.length r) = SL (fun y => if y.net = n then g y else 0) r
  | [], pre => by simp [idx, SI, SL]
  | y :: r, pre => by
    have ih := SI_idx g n r (pre ++ [y])
    rw [List.append_assoc, List.singleton_append, List.length_append, List.length_singleton] at ih
    have e : at0 g (pre ++ y :: r) pre.length = g y := by simp [at0]
    simp only [idx, SL]
    split
    · simp only [SI, ih, e]
    · rw [ih]
      omega
theorem DD_SL (n d : Int) : ∀ l : List Wt, DD n d l = SL (fun y => if y.net = n then (if y.due ≤ d then y.left else 0) else 0) l
  | [] => rfl
  | y :: r => by
    simp only [DD, SL, DD_SL n d r]
    by_cases h1 : y.net = n <;> by_cases h2 : y.due ≤ d <;> simp [h1, h2]
/-- serve in an order: places left, the list, what is done -/
def srv : List Nat → Int → List Wt → List Int → Int × List Wt × List Int
  | [], pl, l, dn => (pl, l, dn)
  | i :: r, pl, l, dn => match l[i]? with
    | some x => srv r (pl - min pl x.left) (l.set i { x with left := x.left - min pl x.left }) (if x.left - min pl x.left = 0 then dn ++ [x.ev] else dn)
    | none => srv r pl l dn
theorem srv_cons {i : Nat} {r : List Nat} {pl : Int} {l : List Wt} {dn : List Int} {x : Wt} (h : l[i]? = some x) : srv (i :: r) pl l dn = srv r (pl - min pl x.left) (l.set i { x with left := x.left - min pl x.left }) (if x.left - min pl x.left = 0 then dn ++ [x.ev] else dn) := by
  simp only [srv, h]
theorem Low.refl {n : Int} {x : Wt} (h : 0 ≤ x.left) : Low n x x := ⟨rfl, rfl, rfl, h, Int.le_refl _, fun _ => rfl⟩
theorem Low.trans {n : Int} {x y z : Wt} (h : Low n x y) (k : Low n y z) : Low n x z := by
  unfold Low at *
  omega
theorem All2.refl {n : Int} : ∀ {l : List Wt}, (∀ y ∈ l, 0 ≤ y.left) → All2 (Low n) l l
  | [], _ => .nil
  | x :: r, h => .cons (Low.refl (h x (by simp))) (All2.refl fun y hy => h y (by simp [hy]))
theorem All2.trans {n : Int} {a b : List Wt} (h : All2 (Low n) a b) : ∀ {c : List Wt}, All2 (Low n) b c → All2 (Low n) a c := by
  induction h with
  | nil => intro c h; exact h
  | cons hxy _ ih =>
    intro c h
    cases h with
    | cons h1 h2 => exact .cons (hxy.trans h1) (ih h2)
theorem All2.set {n : Int} {x' : Wt} : ∀ {l : List Wt} {i : Nat} {x : Wt}, (∀ y ∈ l, 0 ≤ y.left) → l[i]? = some x → Low n x x' → All2 (Low n) l (l.set i x')
  | [], i, x, _, h, _ => by simp at h
  | y :: r, 0, x, hl, h, hx => by
    simp at h
    subst h
    exact .cons hx (All2.refl fun z hz => hl z (by simp [hz]))
  | y :: r, i + 1, x, hl, h, hx => .cons (Low.refl (hl y (by simp))) (All2.set (fun z hz => hl z (by simp [hz])) (by simpa using h) hx)
theorem All2.nn {n : Int} {a b : List Wt} (h : All2 (Low n) a b) : ∀ y ∈ b, 0 ≤ y.left := fun y hy => by
  obtain ⟨x, _, hl⟩ := h.bwd y hy
  exact hl.2.2.2.1
theorem All2.len {n : Int} {a b : List Wt} (h : All2 (Low n) a b) : a.length = b.length := by
  induction h with
  | nil => rfl
  | cons _ _ ih => simp [ih]
theorem All2.at {n : Int} {a b : List Wt} (h : All2 (Low n) a b) : ∀ {i : Nat} {x : Wt}, a[i]? = some x → ∃ y, b[i]? = some y ∧ Low n x y := by
  induction h with
  | nil => intro i x h; simp at h
  | cons hxy _ ih =>
    intro i x h
    cases i with
    | zero =>
      simp at h
      subst h
      exact ⟨_, by simp, hxy⟩
    | succ i =>
      obtain ⟨y, h1, h2⟩ := ih (by simpa using h)
      exact ⟨y, by simpa using h1, h2⟩
def gd (d : Int) (y : Wt) : Int := if y.due ≤ d then y.left else 0
def gz (y : Wt) : Int := if y.left = 0 then 1 else 0
theorem at0_set (g : Wt → Int) {l : List Wt} {i j : Nat} {x : Wt} (h : j ≠ i) : at0 g (l.set i x) j = at0 g l j := by
  unfold at0
  rw [List.getElem?_set_ne (by omega)]
theorem SI_set (g : Wt → Int) {l : List Wt} {i : Nat} {x : Wt} : ∀ {o : List Nat}, i ∉ o → SI g (l.set i x) o = SI g l o
  | [], _ => rfl
  | j :: r, h => by
    simp only [List.mem_cons, not_or] at h
    simp only [SI, SI_set g h.2, at0_set g (fun e => h.1 e.symm)]
theorem SI_nonneg {g : Wt → Int} {l : List Wt} (h : ∀ y ∈ l, 0 ≤ g y) : ∀ {o : List Nat}, 0 ≤ SI g l o
  | [] => by simp [SI]
  | j :: r => by
    have h1 := SI_nonneg (l := l) h (o := r)
    have h2 : 0 ≤ at0 g l j := by
      unfold at0
      split
      · rename_i y hy
        exact h y (List.mem_of_getElem? hy)
      · omega
    simp only [SI]
    omega
structure Sv (n d : Int) (o : List Nat) (pl : Int) (l : List Wt) (dn : List Int) (q : Int × List Wt × List Int) : Prop where
  low : All2 (Low n) l q.2.1
  same : ∀ j, j ∉ o → q.2.1[j]? = l[j]?
  sum : SI (gd d) q.2.1 o ≤ max 0 (SI (gd d) l o - pl)
  keep : ∀ e ∈ dn, e ∈ q.2.2
  zero : ∀ j y, j ∈ o → q.2.1[j]? = some y → y.left = 0 → y.ev ∈ q.2.2
  cnt : (q.2.2.length : Int) = dn.length + SI gz q.2.1 o
theorem srv_ok (n d : Int) : ∀ (o : List Nat) (pl : Int) (l : List Wt) (dn : List Int), 0 ≤ pl → (∀ y ∈ l, 0 ≤ y.left) → o.Nodup → (∀ i ∈ o, ∃ x, l[i]? = some x ∧ x.net = n) →
    o.Pairwise (fun i j => ∀ x y, l[i]? = some x → l[j]? = some y → x.due ≤ y.due) → Sv n d o pl l dn (srv o pl l dn)
  | [], pl, l, dn, hpl, hl, _, _, _ => ⟨All2.refl hl, fun _ _ => rfl, by simp [SI, srv]; omega, fun _ h => h, fun _ _ h => by simp at h, by simp [SI, srv]⟩
  | i :: r, pl, l, dn, hpl, hl, hnd, hin, hs => by
    obtain ⟨x, hx, hxn⟩ := hin i (by simp)
    have hx0 := hl x (List.mem_of_getElem? hx)
    rw [srv_cons hx]
    obtain ⟨hir, hndr⟩ := List.nodup_cons.1 hnd
    obtain ⟨hs1, hs2⟩ := List.pairwise_cons.1 hs
    have ne : ∀ {j : Nat}, j ∈ r → i ≠ j := fun hj e => hir (by rw [e]; exact hj)
    have hlow : Low n x { x with left := x.left - min pl x.left } := ⟨rfl, rfl, rfl, by dsimp only; omega, by dsimp only; omega, fun h => absurd hxn h⟩
    have hset := All2.set (n := n) hl hx hlow
    have ihh := srv_ok n d r (pl - min pl x.left) (l.set i { x with left := x.left - min pl x.left }) (if x.left - min pl x.left = 0 then dn ++ [x.ev] else dn) (by omega) hset.nn hndr
      (fun j hj => by
        obtain ⟨y, h1, h2⟩ := hin j (by simp [hj])
        exact ⟨y, by rw [List.getElem?_set_ne (ne hj)]; exact h1, h2⟩)
      (hs2.imp_of_mem fun {a b} ha hb hab y z hy hz => by
        rw [List.getElem?_set_ne (ne ha)] at hy
        rw [List.getElem?_set_ne (ne hb)] at hz
        exact hab y z hy hz)
    generalize hq : srv r (pl - min pl x.left) (l.set i { x with left := x.left - min pl x.left }) (if x.left - min pl x.left = 0 then dn ++ [x.ev] else dn) = q at ihh ⊢
    have hil : i < l.length := by
      obtain ⟨h, _⟩ := List.getElem?_eq_some_iff.1 hx
      exact h
    have hqi : q.2.1[i]? = some { x with left := x.left - min pl x.left } := by rw [ihh.same i hir, List.getElem?_set_self hil]
    refine ⟨hset.trans ihh.low, fun j hj => ?_, ?_, fun e he => ihh.keep e ?_, fun j y hj hy h0 => ?_, ?_⟩
    · simp only [List.mem_cons, not_or] at hj
      rw [ihh.same j hj.2, List.getElem?_set_ne (fun e => hj.1 e.symm)]
    · have h1 := ihh.sum
      rw [SI_set _ hir] at h1
      have h2 : at0 (gd d) l i = if x.due ≤ d then x.left else 0 := by simp only [at0, hx, gd]
      have h3 : at0 (gd d) q.2.1 i = if x.due ≤ d then x.left - min pl x.left else 0 := by simp only [at0, hqi, gd]
      have h4 : 0 ≤ SI (gd d) l r := SI_nonneg fun y hy => by
        have := hl y hy
        unfold gd
        split <;> omega
      simp only [SI, h2, h3]
      by_cases e : x.due ≤ d
      · rw [if_pos e, if_pos e]
        omega
      · have h5 : ∀ o : List Nat, (∀ j ∈ o, j ∈ r) → SI (gd d) l o = 0 := fun o => by
          induction o with
          | nil => intro _; rfl
          | cons j o ih =>
            intro ho
            obtain ⟨y, h1, h2⟩ := hin j (by simp [ho j (by simp)])
            have := hs1 j (ho j (by simp)) x y hx h1
            have h6 : at0 (gd d) l j = 0 := by
              simp only [at0, h1, gd]
              rw [if_neg (by omega)]
            simp only [SI, h6, ih fun k hk => ho k (by simp [hk])]
            omega
        rw [h5 r fun _ h => h] at h1 ⊢
        rw [if_neg e, if_neg e]
        omega
    · split
      · simp [he]
      · exact he
    · rcases List.mem_cons.1 hj with e | e
      · subst e
        rw [hqi] at hy
        injection hy with hy
        subst hy
        refine ihh.keep _ ?_
        dsimp only at h0 ⊢
        rw [if_pos h0]
        simp
      · exact ihh.zero j y e hy h0
    · have h1 := ihh.cnt
      have h3 : at0 gz q.2.1 i = if x.left - min pl x.left = 0 then 1 else 0 := by simp only [at0, hqi, gz]
      simp only [SI, h3]
      split at h1 <;> rename_i e
      · rw [if_pos e]
        simp only [List.length_append, List.length_singleton] at h1
        omega
      · rw [if_neg e]
        omega
theorem SL_zero (n : Int) {l l' : List Wt} (h : All2 (Low n) l l') (hp : ∀ y ∈ l, 1 ≤ y.left) : SL (fun y => if y.net = n then gz y else 0) l' + ((l'.filter fun y => decide (y.left ≠ 0)).length : Int) = l.length := by
  induction h with
  | nil => rfl
  | cons hxy _ ih =>
    rename_i x y _ _ _
    have ih := ih fun z hz => hp z (by simp [hz])
    have hx := hp x (by simp)
    obtain ⟨h1, h2, h3, h4, h5, h6⟩ := hxy
    simp only [SL, gz, List.length_cons]
    by_cases e : y.left = 0
    · have hn : y.net = n := by
        apply Decidable.byContradiction
        intro hc
        have := h6 (by omega)
        omega
      rw [List.filter_cons_of_neg (by simp [e]), if_pos hn, if_pos e]
      simp only [gz] at ih
      omega
    · rw [List.filter_cons_of_pos (by simp [e])]
      simp only [e, if_false, List.length_cons]
      simp only [gz] at ih
      split <;> omega
/-- a step with service -/
theorem srv_served {n rate : Int} {l : List Wt} {o : List Nat} (hr : 0 ≤ rate) (hp : ∀ y ∈ l, 1 ≤ y.left) (ho : List.Perm o (idx n 0 l)) (hs : o.Pairwise (fun i j => ∀ x y, l[i]? = some x → l[j]? = some y → x.due ≤ y.due)) :
    Served rate n l (srv o rate l []).2.2 ((srv o rate l []).2.1.filter fun y => decide (y.left ≠ 0)) ∧
      (srv o rate l []).2.2.length + ((srv o rate l []).2.1.filter fun y => decide (y.left ≠ 0)).length = l.length := by
  have hnn : ∀ y ∈ l, 0 ≤ y.left := fun y hy => by have := hp y hy; omega
  have hnd : o.Nodup := ho.nodup_iff.2 (idx_nodup l 0)
  have hin : ∀ i ∈ o, ∃ x, l[i]? = some x ∧ x.net = n := fun i hi => by
    obtain ⟨y, _, h2, h3⟩ := idx_mem.1 (ho.mem_iff.1 hi)
    exact ⟨y, by simpa using h2, h3⟩
  have key := fun d => srv_ok n d o rate l [] hr hnn hnd hin hs
  generalize srv o rate l [] = q at key ⊢
  have k0 := key 0
  have hidx : idx n 0 q.2.1 = idx n 0 l := by
    have : ∀ (a b : List Wt), All2 (Low n) a b → ∀ k, idx n k b = idx n k a := fun a b h => by
      induction h with
      | nil => intro k; rfl
      | cons hxy _ ih =>
        intro k
        have h2 := hxy.2.1
        simp only [idx, ih, h2]
    exact this _ _ k0.low 0
  refine ⟨⟨q.2.1, k0.low, fun d => ?_, rfl, fun y hy hn h0 => ?_⟩, ?_⟩
  · have h1 := (key d).sum
    have e1 := SI_idx (gd d) n l []
    have e2 := SI_idx (gd d) n q.2.1 []
    simp only [List.nil_append, List.length_nil] at e1 e2
    rw [hidx] at e2
    rw [SI_perm _ _ ho, SI_perm _ _ ho, e1, e2] at h1
    rw [DD_SL, DD_SL]
    exact h1
  · obtain ⟨j, hj, rfl⟩ := List.getElem_of_mem hy
    refine k0.zero j _ (ho.mem_iff.2 ?_) (List.getElem?_eq_getElem hj) h0
    rw [← hidx]
    exact idx_mem.2 ⟨_, Nat.zero_le _, by rw [Nat.sub_zero]; exact List.getElem?_eq_getElem hj, hn⟩
  · have h1 := k0.cnt
    have e2 := SI_idx gz n q.2.1 []
    simp only [List.nil_append, List.length_nil] at e2
    rw [hidx] at e2
    rw [SI_perm _ _ ho, e2] at h1
    have h2 := SL_zero n k0.low hp
    simp only [List.length_nil] at h1
    omega

/-! ### what fits -/
structure Jb where
  id : Int
  size : Int
  due : Int
deriving DecidableEq
def JD (d : Int) : List Jb → Int
  | [] => 0
  | y :: r => (if y.due ≤ d then y.size else 0) + JD d r
theorem JD_perm {d : Int} {a b : List Jb} (h : List.Perm a b) : JD d a = JD d b := by
  induction h with
  | nil => rfl
  | cons x _ ih => simp only [JD, ih]
  | swap x y l => simp only [JD]; omega
  | trans _ _ h1 h2 => omega
/-- each job's needs are at most what is given until it is due -/
def PO (G : Int → Int) : Int → List Jb → Prop
  | _, [] => True
  | k, x :: r => k + x.size ≤ G x.due ∧ PO G (k + x.size) r
theorem PO_ok {G : Int → Int} : ∀ {s : List Jb} {k : Int}, s.Pairwise (fun a b => a.due ≤ b.due) → PO G k s → ∀ x ∈ s, k + JD x.due s ≤ G x.due
  | y :: r, k, hs, hp, x, hx => by
    obtain ⟨hs1, hs2⟩ := List.pairwise_cons.1 hs
    have ih := PO_ok hs2 hp.2
    have key : ∀ z ∈ r, k + JD z.due (y :: r) ≤ G z.due := fun z hz => by
      have h1 := ih z hz
      have h2 := hs1 z hz
      simp only [JD, if_pos h2]
      omega
    rcases List.mem_cons.1 hx with e | e
    · subst e
      by_cases hz : ∃ z ∈ r, z.due ≤ x.due
      · obtain ⟨z, hz, hle⟩ := hz
        have := key z hz
        rwa [show z.due = x.due from Int.le_antisymm hle (hs1 z hz)] at this
      · have h0 : ∀ t : List Jb, (∀ z ∈ t, z ∈ r) → JD x.due t = 0 := fun t => by
          induction t with
          | nil => intro _; rfl
          | cons z t ih =>
            intro ht
            simp only [JD, ih fun u hu => ht u (by simp [hu])]
            rw [if_neg fun hle => hz ⟨z, ht z (by simp), hle⟩]
            omega
        have := hp.1
        simp only [JD, h0 r fun _ h => h, Int.le_refl, if_true]
        omega
    · exact key x e
def jb (y : Wt) : Jb := ⟨y.ev, y.left, y.due⟩
def jobs (n : Int) (l : List Wt) : List Jb := (l.filter fun y => decide (y.net = n)).map jb
theorem JD_jobs (n d : Int) : ∀ l : List Wt, JD d (jobs n l) = DD n d l
  | [] => rfl
  | y :: r => by
    have ih := JD_jobs n d r
    unfold jobs at ih ⊢
    by_cases h : y.net = n
    · rw [List.filter_cons_of_pos (by simp [h]), List.map_cons]
      simp only [JD, DD, ih, jb, h, true_and]
      by_cases h2 : y.due ≤ d <;> simp [h2]
    · rw [List.filter_cons_of_neg (by simp [h])]
      simp only [DD, ih, h, false_and, if_false]
      omega
theorem fits {n : Int} {l : List Wt} {G : Int → Int} {s : List Jb} (hp : List.Perm s (jobs n l)) (hs : s.Pairwise (fun a b => a.due ≤ b.due)) (h : PO G 0 s) : ∀ y ∈ l, y.net = n → DD n y.due l ≤ G y.due := fun y hy hn => by
  have h1 := PO_ok hs h (jb y) (hp.mem_iff.2 (List.mem_map.2 ⟨y, by simp [hy, hn], rfl⟩))
  rw [JD_perm hp, JD_jobs] at h1
  simp only [jb] at h1
  omega

theorem dn_le {win down T : Int} (hw : 0 < down → down < win) (hT : 0 ≤ T) : 0 ≤ dn win down T ∧ dn win down T ≤ T := by
  unfold dn
  split
  · rename_i hp
    have hw := hw hp
    have h1 : 0 ≤ T / win := Int.ediv_nonneg hT (by omega)
    have h2 := Int.emod_nonneg T (show win ≠ 0 by omega)
    have h3 := Int.mul_ediv_add_emod T win
    have h4 : T / win * down ≤ T / win * win := Int.mul_le_mul_of_nonneg_left (by omega) h1
    have h5 : 0 ≤ T / win * down := Int.mul_nonneg h1 (by omega)
    rw [Int.mul_comm] at h3
    omega
  · omega
def rightP (y : Wt) : Prop := ((0 ≤ y.ev ∧ y.ev ≤ 99999) ∧ (0 ≤ y.net ∧ y.net ≤ 11)) ∧ (1 ≤ y.left ∧ y.left ≤ 1099511627776) ∧ (0 ≤ y.due ∧ y.due ≤ 1073741824)
instance (y : Wt) : Decidable (rightP y) := by unfold rightP; infer_instance
def hasP (l : List Wt) (e n : Int) : Prop := ∃ y ∈ l, y.ev = e ∧ y.net = n
instance (l : List Wt) (e n : Int) : Decidable (hasP l e n) := by unfold hasP; infer_instance
def QW (l : List Wt) : Prop := (∀ y ∈ l, rightP y) ∧ l.Pairwise fun a b => ¬ (a.ev = b.ev ∧ a.net = b.net)
theorem QW.nil : QW [] := ⟨fun y hy => by simp at hy, .nil⟩
theorem QW.pos {l : List Wt} (h : QW l) : Pos l := fun y hy => by
  have := h.1 y hy
  unfold rightP at this
  omega
theorem QW.put {l : List Wt} {w : Wt} (h : QW l) (hr : rightP w) (hn : ¬ hasP l w.ev w.net) : QW (l ++ [w]) := by
  refine ⟨fun y hy => ?_, ?_⟩
  · rcases List.mem_append.1 hy with e | e
    · exact h.1 y e
    · simp at e
      exact e ▸ hr
  · rw [List.pairwise_append]
    refine ⟨h.2, by simp, fun a ha b hb => ?_⟩
    simp at hb
    subst hb
    exact fun c => hn ⟨a, ha, c⟩
theorem QW.low {n : Int} {l l' : List Wt} (h : QW l) (hl : All2 (Low n) l l') : QW (l'.filter fun y => decide (y.left ≠ 0)) := by
  refine ⟨fun y hy => ?_, ?_⟩
  · simp only [List.mem_filter, decide_eq_true_eq] at hy
    obtain ⟨x, hx, hlow⟩ := hl.bwd y hy.1
    have := h.1 x hx
    unfold Low at hlow
    unfold rightP at this ⊢
    omega
  · have : l'.Pairwise fun a b => ¬ (a.ev = b.ev ∧ a.net = b.net) := by
      have h2 := h.2
      clear h
      induction hl with
      | nil => exact .nil
      | cons hxy hab ih =>
        obtain ⟨h3, h4⟩ := List.pairwise_cons.1 h2
        refine List.pairwise_cons.2 ⟨fun z hz => ?_, ih h4⟩
        obtain ⟨u, hu, hlow⟩ := hab.bwd z hz
        have := h3 u hu
        unfold Low at hlow hxy
        omega
    exact List.Pairwise.filter _ this
theorem QW.served {rate n : Int} {l left : List Wt} {done : List Int} (h : QW l) (hs : Served rate n l done left) : QW left := by
  obtain ⟨l', h1, _, rfl, _⟩ := hs.ex
  exact h.low h1
/-- what a put gives -/
def PutR (ok : Prop) (rate win down now : Int) (l : List Wt) (w : Wt) (e : Int) (out : List Wt) : Prop :=
  (rightP w ∧ ¬ hasP l w.ev w.net ∧ ok ∧ ∃ s, List.Perm s (jobs w.net (l ++ [w])) ∧ s.Pairwise (fun a b => a.due ≤ b.due) ∧ ((PO (gv rate win down now) 0 s ∧ e = 0 ∧ out = l ++ [w]) ∨ (¬ PO (gv rate win down now) 0 s ∧ e ≠ 0 ∧ out = l))) ∨
  (¬ (rightP w ∧ ¬ hasP l w.ev w.net ∧ ok) ∧ e ≠ 0 ∧ out = l)
/-- what a step gives -/
def StepR (rate n : Int) (l : List Wt) (done : List Int) (left : List Wt) : Prop :=
  ∃ o, List.Perm o (idx n 0 l) ∧ o.Pairwise (fun i j => ∀ x y, l[i]? = some x → l[j]? = some y → x.due ≤ y.due) ∧ done = (srv o rate l []).2.2 ∧ left = (srv o rate l []).2.1.filter fun y => decide (y.left ≠ 0)
theorem StepR.served {rate n : Int} {l : List Wt} {done : List Int} {left : List Wt} (hr : 0 ≤ rate) (hq : QW l) (h : StepR rate n l done left) : Served rate n l done left ∧ done.length + left.length = l.length := by
  obtain ⟨o, h1, h2, rfl, rfl⟩ := h
  exact srv_served hr (fun y hy => (hq.pos y hy).1) h1 h2
/-- a network that keeps what it promised -/
structure NetK where
  ok : Prop
  rate : Int
  win : Int
  down : Int
  u : List Bool
/-- the story so far, at step t, for network n -/
structure Inv1 (N : NetK) (n : Int) (t : Nat) (waits taken : List Wt) (gone : List (Int × Int × Int)) : Prop where
  bd : N.ok → Alw N.u N.win N.down → Bd N.rate N.u n t waits
  tk : N.ok → Alw N.u N.win N.down → Tk n N.u.length taken waits gone
/-- the queue as a whole -/
structure Inv0 (t : Int) (waits taken : List Wt) (gone : List (Int × Int × Int)) : Prop where
  qw : QW waits
  go : ∀ g ∈ gone, 0 ≤ g.2.2 ∧ g.2.2 ≤ t
  len : gone.length + waits.length = taken.length
theorem Inv0.le {t t' : Int} {waits taken : List Wt} {gone : List (Int × Int × Int)} (h : Inv0 t waits taken gone) (ht : t ≤ t') : Inv0 t' waits taken gone := ⟨h.qw, fun g hg => by have := h.go g hg; omega, h.len⟩
/-- a put: refused -/
theorem PutR.no {ok : Prop} {rate win down now e : Int} {l out : List Wt} {w : Wt} (h : PutR ok rate win down now l w e out) (he : e ≠ 0) : out = l := by
  rcases h with ⟨_, _, _, s, _, _, ⟨_, h, _⟩ | ⟨_, _, h⟩⟩ | ⟨_, _, h⟩
  · exact absurd h he
  · exact h
  · exact h
theorem PutR.yes {ok : Prop} {rate win down now e : Int} {l out : List Wt} {w : Wt} (h : PutR ok rate win down now l w e out) (he : e = 0) : out = l ++ [w] ∧ rightP w ∧ ¬ hasP l w.ev w.net ∧ ok ∧ ∀ y ∈ l ++ [w], y.net = w.net → DD w.net y.due (l ++ [w]) ≤ gv rate win down now y.due := by
  rcases h with ⟨h1, h2, h3, s, h4, h5, ⟨h6, _, h7⟩ | ⟨_, h, _⟩⟩ | ⟨_, h, _⟩
  · exact ⟨h7, h1, h2, h3, fits h4 h5 h6⟩
  · exact absurd he h
  · exact absurd he h
theorem Inv0.put {ok : Prop} {rate win down now e t : Int} {l out taken : List Wt} {gone : List (Int × Int × Int)} {w : Wt} (h : PutR ok rate win down now l w e out) (he : e = 0) (I : Inv0 t l taken gone) : Inv0 t out (taken ++ [w]) gone := by
  obtain ⟨rfl, h1, h2, _, _⟩ := h.yes he
  exact ⟨I.qw.put h1 h2, I.go, by have := I.len; simp; omega⟩
theorem Inv1.put {N : NetK} {e : Int} {t : Nat} {l out taken : List Wt} {gone : List (Int × Int × Int)} {w : Wt} (h : PutR N.ok N.rate N.win N.down t l w e out) (he : e = 0) (hq : QW l) (hw : 0 < N.down → 0 < N.win) (hr : 0 ≤ N.rate) (I : Inv1 N w.net t l taken gone) : Inv1 N w.net t out (taken ++ [w]) gone := by
  obtain ⟨rfl, h1, h2, _, h4⟩ := h.yes he
  exact ⟨fun ok ha => Bd.put (hq.put h1 h2).pos ha hw hr rfl h4, fun ok ha => (I.tk ok ha).put w⟩
theorem Inv1.put_other {ok : Prop} {N : NetK} {rate win down now e n : Int} {t : Nat} {l out taken : List Wt} {gone : List (Int × Int × Int)} {w : Wt} (h : PutR ok rate win down now l w e out) (he : e = 0) (hn : w.net ≠ n) (I : Inv1 N n t l taken gone) : Inv1 N n t out (taken ++ [w]) gone := by
  obtain ⟨rfl, _, _, _, _⟩ := h.yes he
  exact ⟨fun ok ha => (I.bd ok ha).put_other hn, fun ok ha => (I.tk ok ha).put w⟩
theorem Inv0.served {rate n t : Int} {l left taken : List Wt} {gone : List (Int × Int × Int)} {done : List Int} (hs : Served rate n l done left) (hl : done.length + left.length = l.length) (ht : 0 ≤ t) (I : Inv0 t l taken gone) : Inv0 t left taken (gone ++ done.map fun e => (e, n, t)) := by
  refine ⟨I.qw.served hs, fun g hg => ?_, by have := I.len; simp; omega⟩
  rcases List.mem_append.1 hg with e | e
  · exact I.go g e
  · obtain ⟨x, _, rfl⟩ := List.mem_map.1 e
    exact ⟨ht, Int.le_refl _⟩
/-- service at step t, for the network itself -/
theorem Inv1.served {N : NetK} {n : Int} {t : Nat} {l left taken : List Wt} {gone : List (Int × Int × Int)} {done : List Int} (hs : Served N.rate n l done left) (hr : N.ok → 0 ≤ N.rate) (I0 : Inv0 t l taken gone) (hu : N.u[t]? = some true) (I : Inv1 N n t l taken gone) :
    Inv1 N n (t + 1) left taken (gone ++ done.map fun e => (e, n, (t : Int))) := by
  have hlt : t < N.u.length := (List.getElem?_eq_some_iff.1 hu).1
  exact ⟨fun ok ha => hs.bd I0.qw.pos (I.bd ok ha) hu, fun ok ha => (I.tk ok ha).served hs I0.qw.pos I0.go ((I.bd ok ha).late I0.qw.pos (hr ok) (by omega))⟩
theorem Inv1.idle {N : NetK} {n : Int} {t : Nat} {l taken : List Wt} {gone : List (Int × Int × Int)} (hu : N.ok → N.u[t]? = some false) (I : Inv1 N n t l taken gone) : Inv1 N n (t + 1) l taken gone :=
  ⟨fun ok ha => (I.bd ok ha).down (hu ok), I.tk⟩
/-- service at step t for another network: either it had its step t already, or not yet -/
theorem Inv1.other {N : NetK} {rate n m : Int} {t k : Nat} {l left taken : List Wt} {gone : List (Int × Int × Int)} {done : List Int} (hs : Served rate n l done left) (hnm : m ≠ n) (hr : N.ok → 0 ≤ N.rate) (I0 : Inv0 k l taken gone) (hk : k ≤ t) (ht : t ≤ N.u.length) (I : Inv1 N m t l taken gone) :
    Inv1 N m t left taken (gone ++ done.map fun e => (e, n, (k : Int))) :=
  ⟨fun ok ha => hs.other hnm (I.bd ok ha), fun ok ha => (I.tk ok ha).served hs I0.qw.pos I0.go fun y hy hn hd => by
    have := (I.bd ok ha).late I0.qw.pos (hr ok) ht y hy hn hd
    omega⟩
end Go.Top
