/-
  Sorting own rows by the kit's contracts of slices.SortFunc, in the layer's words. Over any program.
-/
import Derived.Test.YtgbhghoppjfofaaGreatMade
import Derived.Shelf.SlSortCmp.NoneTotal
namespace Go.Dec
open Go.RowKit Go.Shelf

/-- grown, maybe with draws -/
def Gr (w w' : World) : Prop := Quiet w w' ∧ w.drawn ≤ w'.drawn
theorem Gr.refl (w : World) : Gr w w := ⟨Only.refl _ _, Nat.le_refl _⟩
theorem Gr.trans {w w' w'' : World} (h : Gr w w') (k : Gr w' w'') : Gr w w'' := ⟨h.1.tr k.1, Nat.le_trans h.2 k.2⟩
theorem Gr.drew (w : World) : Gr w w.drew := ⟨Only.drew _ _, Nat.le_succ _⟩
theorem Gr.alloc (w : World) (o : Obj) : Gr w (w.alloc o) := ⟨Only.alloc _ _ _, Nat.le_refl _⟩
theorem setAll_drawn : ∀ (vs : List Value) (w : World) (p : Addr) (i : Nat), (setAll w p vs i).drawn = w.drawn
  | [], _, _, _ => rfl
  | v :: r, w, p, i => by
    show (setAll (w.setCell (p.add i) v) p r (i + 1)).drawn = _
    rw [setAll_drawn r]
    unfold World.setCell
    rfl
theorem nwG {t : TypeId} {cs : Array Value} {w : World} {K : Nat → World → Prop} (k : ∀ b w', Blk w' b t cs → Gr w w' → w.heap.size ≤ b → b < w'.heap.size → K b w') : nw t cs w K := by
  rintro b w' rfl rfl
  refine k _ _ (heap_alloc_new w _) (Gr.alloc _ _) (Nat.le_refl _) (by simp)
theorem boxG {t : TypeId} {zs : Array Value} {vs : List Value} {w : World} {K : Nat → World → Prop} (h : zs.size = vs.length) (k : ∀ b w', Blk w' b t vs.toArray → Gr w w' → w.heap.size ≤ b → b < w'.heap.size → K b w') :
    nw t zs w fun b w1 => st (Addr.mk b 0 none) vs w1 fun w2 => K b w2 := by
  rintro b w1 hb hw1
  have hd1 : w1.drawn = w.drawn := by rw [hw1]; rfl
  refine ⟨?_, ?_⟩
  · have := box_all (t := t) (w := w) (K := fun _ _ => True) h fun _ _ _ _ _ _ => trivial
    exact (this b w1 hb hw1).1
  · rintro w2 hw2
    have := box_all (t := t) (w := w) (K := fun b w' => Blk w' b t vs.toArray ∧ Quiet w w' ∧ w.heap.size ≤ b ∧ b < w'.heap.size) h fun _ _ h1 h2 h3 h4 => ⟨h1, h2, h3, h4⟩
    obtain ⟨h1, h2, h3, h4⟩ := (this b w1 hb hw1).2 w2 hw2
    exact k b w2 h1 ⟨h2, by rw [hw2, setAll_drawn, hd1]; exact Nat.le_refl _⟩ h3 h4
/-- what the kit's sort asks of its comparison -/
theorem Gr.grow {w w' : World} (h : Gr w w') : ∃ q os', w' = Sort.grow (w.drewN q) os' := by
  obtain ⟨q, hd⟩ := h
  refine ⟨w'.drawn - w.drawn, w'.heap.extract w.heap.size w'.heap.size, ?_⟩
  have hh : w'.heap = w.heap ++ w'.heap.extract w.heap.size w'.heap.size := by
    apply Array.ext_getElem?
    intro k
    rw [Array.getElem?_append]
    split
    · exact q.block k (by assumption) id
    · rename_i hk
      rw [Array.getElem?_extract]
      have hs := q.size
      split
      · congr 1
        omega
      · exact Array.getElem?_eq_none (by omega)
  obtain ⟨q1, q2, q3, _, _⟩ := q
  cases w'
  cases w
  simp only at *
  subst q1 q2 q3
  unfold Sort.grow World.drewN
  simp only [World.mk.injEq, true_and, and_true]
  exact ⟨hh, by omega⟩
theorem Gr.of_grow {w : World} {q : Nat} {os : Array Obj} : Gr w (Sort.grow (w.drewN q) os) := by
  refine ⟨⟨rfl, rfl, rfl, ?_, fun k hk _ => ?_⟩, Nat.le_add_right _ _⟩
  · show w.heap.size ≤ (w.heap ++ os).size
    simp
  · show (w.heap ++ os)[k]? = _
    rw [Array.getElem?_append_left hk]
section
variable {α : Type} [Inhabited α] {c : α → List Value} {sz : Nat}
theorem flatK_list (hc : ∀ x, (c x).length = sz) (hz : 0 < sz) (d : Array α) : (Sort.flatK c sz d).toList = d.toList.flatMap c := by
  apply List.ext_getElem?
  intro t
  by_cases ht : t < d.size * sz
  · have hd : t / sz < d.size := Nat.div_lt_of_lt_mul (by rw [Nat.mul_comm]; exact ht)
    have hm : t % sz < sz := Nat.mod_lt _ hz
    have hcl : t % sz < (c d[t / sz]).length := by rw [hc]; exact hm
    have := flat_at (l := d.toList) hc (i := t / sz) (j := t % sz) (x := d[t / sz]) (v := (c d[t / sz])[t % sz]) (by simp [hd]) (List.getElem?_eq_getElem hcl)
    rw [Nat.mul_comm, Nat.div_add_mod] at this
    rw [this]
    have hs : t < (Sort.flatK c sz d).size := by rw [Sort.size_flatK]; exact ht
    rw [Array.getElem?_toList, Array.getElem?_eq_getElem hs, ← getElem!_pos _ t hs, Sort.get_flatK c sz d t ht, getElem!_pos d _ hd, getElem!_pos (c d[t / sz]) _ hcl]
  · rw [List.getElem?_eq_none (by rw [Array.length_toList, Sort.size_flatK]; omega), List.getElem?_eq_none (by rw [flat_len hc, Array.length_toList]; omega)]
/-- a row turned, and grown, with draws: an own row that holds the new list -/
theorem putRow_own {w : World} {F : Nat → Prop} {e : Nat} {s : Sl} {xs ys : List Value} {blk n : Nat} {f : Array Value → Array Value} {os : Array Obj} (h : OwnF w F e sz s xs) (ha : s.a = some ⟨blk, 0, none⟩) (hl : ys.length = xs.length)
    (hf : ∀ cs : Array Value, ys.length ≤ cs.size → (f cs).size = cs.size ∧ (f cs).toList.take ys.length = ys) :
    OwnF (Sort.grow (Sort.mapBlock (Sort.ahead w n) blk f) os) F e sz s ys ∧ Only F w (Sort.grow (Sort.mapBlock (Sort.ahead w n) blk f) os) := by
  have hxl := h.own.len
  rcases h.own.form with ⟨rfl, e0⟩ | ⟨g, cur, h1, h2, h3, h4, h5, h6⟩
  · simp [Sl.nil] at ha
  rw [h1] at ha
  cases ha
  have hF := h.blk blk (by simp [Sl.blk, h1])
  have hle := Nat.mul_le_mul_right sz h3
  obtain ⟨k1, k2⟩ := hf cur (by omega)
  have hlt := Blk.lt h2
  have hb : Blk (Sort.grow (Sort.mapBlock (Sort.ahead w n) blk f) os) blk e (f cur) := by
    show (w.heap.modify blk (Sort.onCells f) ++ os)[blk]? = _
    rw [Array.getElem?_append_left (by simpa using hlt), Array.getElem?_modify, if_pos rfl, show w.heap[blk]? = _ from h2]
    rfl
  refine ⟨⟨Own.mk' h1 hb h3 h4 (by omega) ?_, h.blk⟩, rfl, rfl, rfl, ?_, fun k hk hn => ?_⟩
  · rw [← hxl, ← hl]
    exact k2
  · show w.heap.size ≤ (w.heap.modify blk (Sort.onCells f) ++ os).size
    simp
  · show (w.heap.modify blk (Sort.onCells f) ++ os)[k]? = _
    rw [Array.getElem?_append_left (by simpa using hk), Array.getElem?_modify, if_neg (by rintro rfl; exact hn hF)]
theorem put_take {β : Type} [Inhabited β] (enc : β → Value) (d : Array β) (cs : Array Value) (h : d.size ≤ cs.size) : (Sort.putCells enc 0 d cs).size = cs.size ∧ (Sort.putCells enc 0 d cs).toList.take d.size = d.toList.map enc := by
  refine ⟨by simp [Sort.putCells], ?_⟩
  apply List.ext_getElem?
  intro k
  rw [List.getElem?_take]
  by_cases hk : k < d.size
  · rw [if_pos hk, Array.getElem?_toList]
    unfold Sort.putCells
    rw [Array.getElem?_mapIdx, Array.getElem?_eq_getElem (by omega)]
    simp [hk]
  · rw [if_neg hk, List.getElem?_eq_none (by simp; omega)]
theorem sortK_own (hc : ∀ x, (c x).length = sz) (hz : 0 < sz) {w : World} {F : Nat → Prop} {e : Nat} {s : Sl} {l : List α} {n blk : Nat} {os : Array Obj} {d : Array α} (h : OwnF w F e sz s (l.flatMap c)) (ha : s.a = some ⟨blk, 0, none⟩) (hd : d.size = l.length) :
    OwnF (Proofs.sortWorldK c sz w blk 0 n d os) F e sz s (d.toList.flatMap c) ∧ Only F w (Proofs.sortWorldK c sz w blk 0 n d os) := by
  have e1 := flatK_list hc hz d
  refine putRow_own (f := Sort.putCells id 0 (Sort.flatK c sz d)) h ha (by simp only [flat_len hc, Array.length_toList, hd]) fun cs hcs => ?_
  rw [← e1] at hcs ⊢
  rw [Array.length_toList] at hcs ⊢
  have := put_take id (Sort.flatK c sz d) cs hcs
  rw [List.map_id] at this
  exact this
theorem sort1_own {enc : α → Value} {w : World} {F : Nat → Prop} {e : Nat} {s : Sl} {l : List α} {n blk : Nat} {os : Array Obj} {d : Array α} (h : OwnF w F e 1 s (l.map enc)) (ha : s.a = some ⟨blk, 0, none⟩) (hd : d.size = l.length) :
    OwnF (Proofs.sortWorld enc w blk 0 n d os) F e 1 s (d.toList.map enc) ∧ Only F w (Proofs.sortWorld enc w blk 0 n d os) := by
  refine putRow_own (f := Sort.putCells enc 0 d) h ha (by simp [hd]) fun cs hcs => ?_
  rw [List.length_map, Array.length_toList] at hcs ⊢
  exact put_take enc d cs hcs
theorem holdsK_of (hc : ∀ x, (c x).length = sz) (hz : 0 < sz) {w : World} {F : Nat → Prop} {e : Nat} {s : Sl} {l : List α} {blk : Nat} (h : OwnF w F e sz s (l.flatMap c)) (ha : s.a = some ⟨blk, 0, none⟩) : Sort.HoldsK c sz w blk 0 l.toArray ∧ blk < w.heap.size := by
  have hxl := h.own.len
  rcases h.own.form with ⟨rfl, e0⟩ | ⟨g, cur, h1, h2, h3, h4, h5, h6⟩
  · simp [Sl.nil] at ha
  rw [h1] at ha
  cases ha
  refine ⟨fun j hj => ?_, Blk.lt h2⟩
  have e1 := flatK_list hc hz l.toArray
  rw [Nat.zero_add, h2.cell, h2.frozen]
  refine ⟨?_, rfl⟩
  have e2 : (Sort.flatK c sz l.toArray).toList[j]? = some (Sort.flatK c sz l.toArray)[j]! := by
    rw [Array.getElem?_toList, Array.getElem?_eq_getElem hj, getElem!_pos _ j hj]
  rw [e1] at e2
  have e3 : (l.flatMap c)[j]? = cur[j]? := by
    rw [← h6, List.getElem?_take, if_pos, Array.getElem?_toList]
    have := (List.getElem?_eq_some_iff.1 e2).1
    simp only at this
    omega
  rw [← e3]
  exact e2
theorem holds1_of {enc : α → Value} {w : World} {F : Nat → Prop} {e : Nat} {s : Sl} {l : List α} {blk : Nat} (h : OwnF w F e 1 s (l.map enc)) (ha : s.a = some ⟨blk, 0, none⟩) : Sort.Holds enc w blk 0 l.toArray ∧ blk < w.heap.size := by
  have hxl := h.own.len
  rcases h.own.form with ⟨rfl, e0⟩ | ⟨g, cur, h1, h2, h3, h4, h5, h6⟩
  · simp [Sl.nil] at ha
  rw [h1] at ha
  cases ha
  refine ⟨fun j hj => ?_, Blk.lt h2⟩
  rw [Nat.zero_add, h2.cell, h2.frozen]
  refine ⟨?_, rfl⟩
  have hj' : j < l.length := by simpa using hj
  have e3 : (l.map enc)[j]? = cur[j]? := by
    rw [← h6, List.getElem?_take, if_pos, Array.getElem?_toList]
    rw [List.length_map] at hxl
    omega
  rw [← e3, List.getElem?_map, List.getElem?_eq_getElem hj', getElem!_pos _ j hj]
  simp
theorem sorted_pw {lt : α → α → Bool} {d : Array α} {n : Nat} (hn : d.size = n) (h : Sort.SortedIn lt 0 n d) : d.toList.Pairwise fun x y => lt y x = false := by
  rw [List.pairwise_iff_getElem]
  intro i j hi hj hij
  rw [Array.length_toList] at hi hj
  have := h i j (Nat.zero_le _) hij (by omega)
  rwa [getElem!_pos d i hi, getElem!_pos d j hj] at this
theorem permIn_perm {d d' : Array α} {n : Nat} (hn : d.size = n) (h : Sort.PermIn 0 n d d') : d'.toList.Perm d.toList ∧ d'.size = n := by
  obtain ⟨h1, _, h3⟩ := h
  have e1 : d.extract 0 n = d := by rw [← hn, Array.extract_size]
  have e2 : d'.extract 0 n = d' := by rw [← hn, ← h1, Array.extract_size]
  rw [e1, e2] at h3
  exact ⟨h3, by omega⟩
variable {P : Program} {ρ : Ren}
/-- slices.SortFunc at structs -/
theorem sortK_c (L : Proofs.SlLaysF0.n6 P ρ) (aE : ∀ w, (isAgg (ρ.t 24)).run P w = .ok true w) (zE : ∀ w, (Go.sizeOf (ρ.t 24)).run P w = .ok sz w) (hc : ∀ x, (c x).length = sz) (hz : 0 < sz) (h1 : ∀ x, ∀ v ∈ c x, v.oneCell' = true) {cf : α → α → Int}
    (hO : Sort.SWO (Proofs.ltOf cf)) {g : Nat} {cb : Array Value} {w : World} {F : Nat → Prop} {ty : Nat} {s : Sl} {l : List α} (eg : ∀ args w, (callFunc g args).run P w = .ok (.enter g args) w) (h : OwnF w F ty sz s (l.flatMap c)) (hsz : l.length < 4611686018427387904)
    (hcmp : ∀ w1, Only F w w1 → ∀ x y, Calls P g (#[.agg (c x).toArray, .agg (c y).toArray] ++ cb) w1 fun e w' => e = .returned (.int .i64 (cf x y)) ∧ Gr w1 w') :
    Calls P (ρ.f 6) #[Sl.v s, .func (.func g) #[] cb] w fun e w' => e = .returned (.tuple #[]) ∧ ∃ l' : List α, l'.Perm l ∧ l'.Pairwise (fun x y => Proofs.ltOf cf y x = false) ∧ OwnF w' F ty sz s (l'.flatMap c) ∧ Only F w w' := by
  rcases h.own.form with ⟨rfl, e0⟩ | ⟨blk, cur, ha, h2, h3, h4, h5, h6⟩
  · have hl : l = [] := by
      cases l with
      | nil => rfl
      | cons x r =>
        have := hc x
        have e0 := congrArg List.length e0
        simp [this] at e0
        omega
    subst hl
    refine (Proofs.AnyF.slices_SortFunc_none L none 0 _ w).mono ?_
    rintro e w' ⟨rfl, rfl⟩
    exact ⟨rfl, [], .refl _, .nil, h, Only.refl _ _⟩
  · have hlen : s.len = l.length := by
      have := h.own.len
      rw [flat_len hc] at this
      exact (Nat.eq_of_mul_eq_mul_right hz this).symm
    obtain ⟨hH, hblk⟩ := holdsK_of hc hz h ha
    have := Proofs.AnyQ.slices_SortFunc L sz aE zE c hc h1 cf hO g cb blk 0 s.cap l.toArray w eg (fun m os dk hdk x y => by
      refine (hcmp _ (sortK_own hc hz h ha (by simpa using hdk)).2 x y).mono ?_
      rintro e w' ⟨rfl, hg⟩
      exact ⟨rfl, hg.grow⟩) hH hblk (by simpa using hsz)
    have hv : Sl.v s = .slice (some ⟨blk, 0, none⟩) l.toArray.size s.cap := by rw [Sl.v, ha]; simp [hlen]
    rw [hv]
    refine this.mono ?_
    rintro e w' ⟨rfl, d', n, os, hp, hs, rfl⟩
    obtain ⟨p1, p2⟩ := permIn_perm rfl hp
    have := sortK_own hc hz h ha (n := n) (os := os) (d := d') (by simpa using p2)
    exact ⟨rfl, d'.toList, p1, sorted_pw p2 hs, this.1, this.2⟩
/-- slices.SortFunc at one cell -/
theorem sort1_c (L : Proofs.SlLaysF.n6 P ρ) {enc : α → Value} (h1 : Proofs.OneCell enc) {cf : α → α → Int}
    (hO : Sort.SWO (Proofs.ltOf cf)) {g : Nat} {cb : Array Value} {w : World} {F : Nat → Prop} {ty : Nat} {s : Sl} {l : List α} (eg : ∀ args w, (callFunc g args).run P w = .ok (.enter g args) w) (h : OwnF w F ty 1 s (l.map enc)) (hsz : l.length < 4611686018427387904)
    (hcmp : ∀ w1, Only F w w1 → ∀ x y, Calls P g (#[enc x, enc y] ++ cb) w1 fun e w' => e = .returned (.int .i64 (cf x y)) ∧ Gr w1 w') :
    Calls P (ρ.f 6) #[Sl.v s, .func (.func g) #[] cb] w fun e w' => e = .returned (.tuple #[]) ∧ ∃ l' : List α, l'.Perm l ∧ l'.Pairwise (fun x y => Proofs.ltOf cf y x = false) ∧ OwnF w' F ty 1 s (l'.map enc) ∧ Only F w w' := by
  rcases h.own.form with ⟨rfl, e0⟩ | ⟨blk, cur, ha, h2, h3, h4, h5, h6⟩
  · have hl : l = [] := by simpa using e0
    subst hl
    refine (Proofs.AnyF.slices_SortFunc_none { L with } none 0 _ w).mono ?_
    rintro e w' ⟨rfl, rfl⟩
    exact ⟨rfl, [], .refl _, .nil, h, Only.refl _ _⟩
  · have hlen : s.len = l.length := by
      have := h.own.len
      rw [List.length_map] at this
      omega
    obtain ⟨hH, hblk⟩ := holds1_of h ha
    have := Proofs.Any.slices_SortFunc L enc h1 cf hO g cb blk 0 s.cap l.toArray w eg (fun m os dk hdk x y => by
      refine (hcmp _ (sort1_own h ha (by simpa using hdk)).2 x y).mono ?_
      rintro e w' ⟨rfl, hg⟩
      exact ⟨rfl, hg.grow⟩) hH hblk (by simpa using hsz)
    have hv : Sl.v s = .slice (some ⟨blk, 0, none⟩) l.toArray.size s.cap := by rw [Sl.v, ha]; simp [hlen]
    rw [hv]
    refine this.mono ?_
    rintro e w' ⟨rfl, d', n, os, hp, hs, rfl⟩
    obtain ⟨p1, p2⟩ := permIn_perm rfl hp
    have := sort1_own h ha (n := n) (os := os) (d := d') (by simpa using p2)
    exact ⟨rfl, d'.toList, p1, sorted_pw p2 hs, this.1, this.2⟩
end
end Go.Dec
