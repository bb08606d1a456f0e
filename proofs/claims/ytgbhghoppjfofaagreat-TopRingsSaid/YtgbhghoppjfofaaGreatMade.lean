/-
  Slices that are made whole, and elements that are stored whole. Over any program.
-/
import Derived.Test.YtgbhghoppjfofaaGreatQueue
namespace Go.Dec
open Go.RowKit

theorem splice_list : ∀ (vs : List Value) (i : Nat) (cs : Array Value), i + vs.length ≤ cs.size → (splice cs i vs).toList = cs.toList.take i ++ vs ++ cs.toList.drop (i + vs.length)
  | [], i, cs, _ => by simp [splice]
  | v :: r, i, cs, h => by
    have hl : i < cs.toList.length := by
      simp only [List.length_cons] at h
      simp
      omega
    rw [splice, splice_list r (i + 1) _ (by simp at h ⊢; omega)]
    have e1 : (cs.toList.set i v)[i]? = some v := by rw [List.getElem?_set_self hl]
    rw [Array.toList_setIfInBounds, take_next e1, List.take_set_of_le (Nat.le_refl i), List.drop_set_of_lt (by omega), show i + (v :: r).length = i + 1 + r.length by simp; omega]
    simp
theorem OwnF.put {α : Type} {w : World} {F : Nat → Prop} {e sz : Nat} {s : Sl} {c : α → List Value} {l : List α} {i : Int} {y : α} {K : World → Prop} (h : OwnF w F e sz s (l.flatMap c)) (hc : ∀ x, (c x).length = sz) (h0 : 0 ≤ i) (hi : i < l.length) (hz : 0 < sz)
    (k : ∀ w', OwnF w' F e sz s ((l.set i.toNat y).flatMap c) → Only F w w' → w'.heap.size = w.heap.size → K w') : ix s i sz fun p => st p (c y) w K := by
  have hlen := h.own.len
  rw [flat_len hc] at hlen
  have hsl : l.length = s.len := Nat.eq_of_mul_eq_mul_right hz hlen
  rcases h.own.form with ⟨rfl, e0⟩ | ⟨g, cur, h1, h2, h3, h4, h5, h6⟩
  · simp [Sl.nil] at hsl
    rw [hsl] at hi
    simp at hi
    omega
  · have hb := h.blk g (by simp [Sl.blk, h1])
    refine ⟨⟨h0, by omega⟩, _, h1, ?_⟩
    rw [mk_add, Nat.zero_add]
    obtain ⟨l1, x, l2, rfl, hl1⟩ : ∃ l1 x l2, l = l1 ++ x :: l2 ∧ l1.length = i.toNat := by
      refine ⟨l.take i.toNat, l[i.toNat]'(by omega), l.drop (i.toNat + 1), ?_, by simp; omega⟩
      rw [List.getElem_cons_drop, List.take_append_drop]
    have hsz : (l1 ++ x :: l2).length * sz = l1.length * sz + (sz + l2.length * sz) := by
      simp only [List.length_append, List.length_cons]
      rw [Nat.add_mul, Nat.add_mul, Nat.one_mul]
      omega
    have hle := Nat.mul_le_mul_right sz h3
    rw [← hsl, ← h5] at hle
    have hA : (l1.flatMap c).length = l1.length * sz := flat_len hc l1
    have hB : (l2.flatMap c).length = l2.length * sz := flat_len hc l2
    refine h2.st0 (by rw [hc, ← hl1]; omega) fun w' b' on sz' => k w' ⟨Own.mk' h1 b' h3 h4 ?_ ?_, h.blk⟩ (on.mono fun b _ e => e ▸ hb) sz'
    · rw [← h5, ← Array.length_toList, splice_list _ _ _ (by rw [hc, ← hl1]; omega)]
      simp only [List.length_append, List.length_take, List.length_drop, Array.length_toList, hc]
      rw [← hl1]
      omega
    · rw [splice_list _ _ _ (by rw [hc, ← hl1]; omega), hc, ← hl1]
      obtain ⟨R, hR⟩ : ∃ R, cur.toList = (l1.flatMap c ++ c x ++ l2.flatMap c) ++ R := by
        refine ⟨cur.toList.drop (s.len * sz), ?_⟩
        have := List.take_append_drop (s.len * sz) cur.toList
        rw [h6] at this
        refine this.symm.trans ?_
        simp
      rw [hR, List.set_append_right _ _ (by omega), hl1, Nat.sub_self, List.set_cons_zero, ← hsl, hsz]
      have e1 : ((l1.flatMap c ++ c x ++ l2.flatMap c) ++ R).take (i.toNat * sz) = l1.flatMap c := by
        rw [← hl1, List.append_assoc, List.append_assoc, List.take_left' hA]
      have e2 : ((l1.flatMap c ++ c x ++ l2.flatMap c) ++ R).drop (i.toNat * sz + sz) = l2.flatMap c ++ R := by
        rw [List.append_assoc (l1.flatMap c ++ c x), List.drop_left' (by rw [List.length_append, hA, hc, hl1])]
      rw [e1, e2, ← List.append_assoc, List.take_left' (by rw [List.length_append, List.length_append, hA, hB, hc, hl1]; omega)]
      simp
theorem rn_makeN {P : Program} {α : Type} {w : World} {t e sz bytes : Nat} {z : Value} {n : Nat} {c : α → List Value} {x : α} {K : Sl → World → Prop} (hok : appOK P t e sz bytes = true) (hz : (P.info? e).bind (·.zero) = some z) (hzc : z.cells.toList = c x) (hc : ∀ x, (c x).length = sz) (h63 : n ≤ maxLen) (hb : n * bytes ≤ 140737488355328)
    (k : ∀ r w' F', OwnF w' F' e sz r ((List.replicate n x).flatMap c) → r.len = n → Fresh w w' F' → K r w') : rn P (Instr.makeSlice t (.int .i64 (n : Int)) (.int .i64 (n : Int))) (fun r => Sl.v r) w K := by
  obtain ⟨i, z', h2, h3, h4, h5, h6, h7, h8⟩ := appOK.out hok
  have hzz : z' = z := by
    rw [h3] at hz
    simp only [Option.bind_some, h4] at hz
    exact Option.some.inj hz
  subst hzz
  have h63' : (n : Int) ≤ 9223372036854775807 := by unfold maxLen at h63; omega
  have hb' : (i.bytes : Int) * (n : Int) ≤ 281474976710656 := by
    rw [h6, ← Int.natCast_mul, Nat.mul_comm]
    omega
  have hr := run_make w t e i z' h2 h3 h4 .i64 .i64 n n (by omega) (Int.le_refl _) hb' h63'
  rw [Int.toNat_natCast, h5] at hr
  have hB : Blk (w.alloc (.cells (madeCells z'.cells (n * sz)) e)) w.heap.size e (madeCells z'.cells (n * sz)) := heap_alloc_new w _
  refine ⟨⟨some ⟨w.heap.size, 0, none⟩, n, n⟩, _, hr, ?_⟩
  refine k _ _ (fun b => b = w.heap.size) ⟨Own.mk' rfl hB (Nat.le_refl _) h63 (by simp [size_madeCells]) ?_, fun b hb => ?_⟩ rfl ⟨Only.alloc _ w _, fun b hb => by simp [hb]⟩
  · have hl : (madeCells z'.cells (n * sz)).toList.length = n * sz := by simp [size_madeCells]
    have : (madeCells z'.cells (n * sz)).toList = (List.replicate n x).flatMap c := by
      apply List.ext_getElem?
      intro j
      by_cases hj : j < n * sz
      · have hd : j / sz < n := Nat.div_lt_of_lt_mul (by rw [Nat.mul_comm]; exact hj)
        have hm : j % sz < sz := Nat.mod_lt _ h8
        have hcl : j % sz < (c x).length := by rw [hc]; exact hm
        have := flat_at (l := List.replicate n x) hc (i := j / sz) (j := j % sz) (x := x) (v := (c x)[j % sz]) (by simp [hd]) (List.getElem?_eq_getElem hcl)
        rw [Nat.mul_comm, Nat.div_add_mod] at this
        rw [this]
        have hzs : j % sz < z'.cells.size := by rw [h7]; exact hm
        have e : (c x)[j % sz] = z'.cells[j % sz]'hzs := by simp only [← hzc, Array.getElem_toList]
        rw [e]
        simp only [madeCells, Array.getElem?_toList, Array.getElem?_map, h7]
        rw [Array.getElem?_range]
        simp [hj, hzs]
      · rw [List.getElem?_eq_none (by omega), List.getElem?_eq_none (by rw [flat_len hc]; simp; omega)]
    rw [this, List.take_of_length_le (by rw [flat_len hc]; simp)]
  · simpa [Sl.blk] using hb.symm
end Go.Dec
