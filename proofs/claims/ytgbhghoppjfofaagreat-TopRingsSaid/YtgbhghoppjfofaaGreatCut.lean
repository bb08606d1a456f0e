/-
  The end of an own row cleared, and left off. Over any program.
-/
import Derived.Test.YtgbhghoppjfofaaGreatMade
namespace Go.Dec
open Go.RowKit

theorem OwnF.upto {w : World} {F : Nat → Prop} {e sz : Nat} {s : Sl} {xs : List Value} {i : Nat} (h : OwnF w F e sz s xs) (hi : i ≤ s.len) : OwnF w F e sz ⟨s.a, i, s.cap⟩ (xs.take (i * sz)) := by
  rcases h.own.form with ⟨rfl, rfl⟩ | ⟨g, cur, h1, h2, h3, h4, h5, h6⟩
  · have : i = 0 := by simpa [Sl.nil] using hi
    subst this
    rw [List.take_nil]
    exact OwnF.nil w F e sz
  · refine ⟨Own.mk' h1 h2 (Nat.le_trans hi h3) h4 h5 ?_, fun b hb => h.blk b (by simpa [Sl.blk] using hb)⟩
    dsimp only
    rw [← h6, List.take_take, Nat.min_eq_left (Nat.mul_le_mul_right sz hi)]
theorem rn_uptoX {P : Program} {w : World} {t e sz bytes : Nat} {s : Sl} {h : Int} {K : Sl → World → Prop} (hok : appOK P t e sz bytes = true) (h0 : 0 ≤ h) (h1 : h ≤ s.cap)
    (k : K ⟨s.a, h.toNat, s.cap⟩ w) : rn P (Instr.sliceAt t s.v none (some (.int .i64 h)) none) (fun r => Sl.v r) w K := by
  obtain ⟨i, z, h2, h3, h4, h5, h6, h7, h8⟩ := appOK.out hok
  have he := elem_of h2
  have hs : (sizeOf (P.elem t)).run P w = .ok sz w := by rw [he]; simp [sizeOf, typeInfo, h3, h5]
  have hrun := run_slice_h (w := w) t s.a s.len s.cap (by rw [he]; exact h2) .i64 h h0 h1
  rw [hs] at hrun
  refine ⟨⟨s.a, h.toNat, s.cap⟩, w, ?_, k⟩
  rw [run_sliceAt_slice (h := by rw [he]; exact h2)]
  show (Instr.slice t (.slice s.a s.len s.cap) none (some (.int .i64 h)) none).run P w = _
  rw [hrun]
  simp only [Result.andThen, sliced, Nat.zero_mul, Nat.sub_zero, Sl.v]
  congr 2
  split
  · rfl
  · cases s.a <;> simp
theorem size_zeroCells (z : Array Value) (n : Nat) : (Builtin.zeroCells z n).size = n * z.size := by simp [Builtin.zeroCells]
theorem rn_clearFrom {P : Program} {w : World} {F : Nat → Prop} {t ty e sz bytes : Nat} {s : Sl} {xs : List Value} {l : Int} {K : World → Prop} (hok : appOK P t e sz bytes = true)
    (hz1 : ∀ z, (P.info? e).bind (·.zero) = some z → ∀ v ∈ z.cells, v.oneCell' = true) (h : OwnF w F e sz s xs) (h0 : 0 ≤ l) (h1 : l ≤ s.len)
    (k : ∀ w', OwnF w' F e sz ⟨s.a, l.toNat, s.cap⟩ (xs.take (l.toNat * sz)) → Only F w w' → w'.heap.size = w.heap.size → K w') :
    rn P (Instr.sliceAt t s.v (some (.int .i64 l)) none none) (fun r => Sl.v r) w fun r w1 => rn P (Builtin.clear_ #[t] ty #[Sl.v r]) (fun _ : Unit => Value.tuple #[]) w1 fun _ w2 => K w2 := by
  obtain ⟨i, z, h2, h3, h4, h5, h6, h7, h8⟩ := appOK.out hok
  have he := elem_of h2
  have hs : (sizeOf (P.elem t)).run P w = .ok sz w := by rw [he]; simp [sizeOf, typeInfo, h3, h5]
  have hrun := run_slice_l (w := w) t s.a s.len s.cap (by rw [he]; exact h2) .i64 l h0 (by omega)
  rw [hs] at hrun
  refine ⟨⟨if s.cap = l.toNat then s.a else s.a.map (·.add (l.toNat * sz)), s.len - l.toNat, s.cap - l.toNat⟩, w, ?_, ?_⟩
  · rw [run_sliceAt_slice (h := by rw [he]; exact h2)]
    show (Instr.slice t (.slice s.a s.len s.cap) (some (.int .i64 l)) none none).run P w = _
    rw [hrun]
    rfl
  have hup := h.upto (i := l.toNat) (by omega)
  by_cases hl : s.len = l.toNat
  · refine ⟨(), w, ?_, k w hup (Only.refl _ _) rfl⟩
    have : s.len - l.toNat = 0 := by omega
    rw [Sl.v, this]
    generalize (if s.cap = l.toNat then s.a else s.a.map (·.add (l.toNat * sz))) = ad
    unfold Builtin.clear_
    cases ad <;> simp [run_underlying h2]
  · rcases h.own.form with ⟨rfl, rfl⟩ | ⟨g, cur, g1, g2, g3, g4, g5, g6⟩
    · simp [Sl.nil] at h1 hl
      omega
    have hne : ¬ s.cap = l.toNat := by omega
    have hn : s.len - l.toNat ≠ 0 := by omega
    have hzs : (Builtin.zeroCells z.cells (s.len - l.toNat)).toList.length = (s.len - l.toNat) * sz := by rw [Array.length_toList, size_zeroCells, h7]
    have hle := Nat.mul_le_mul_right sz g3
    have hsub : (s.len - l.toNat) * sz = s.len * sz - l.toNat * sz := Nat.sub_mul _ _ _
    have hle2 := Nat.mul_le_mul_right sz (show l.toNat ≤ s.len by omega)
    have hone : ∀ v ∈ (Builtin.zeroCells z.cells (s.len - l.toNat)).toList, v.oneCell' = true := fun v hv => by
      simp only [Builtin.zeroCells, Array.toList_map, List.mem_map] at hv
      obtain ⟨j, hj, rfl⟩ := hv
      have hm : j % z.cells.size < z.cells.size := Nat.mod_lt _ (by rw [h7]; exact h8)
      rw [getElem!_pos z.cells _ hm]
      exact hz1 z (by simp [h3, h4]) _ (Array.getElem_mem hm)
    have hst := run_storeCells_at P g (l.toNat * sz) e (Builtin.zeroCells z.cells (s.len - l.toNat)).toList 0 cur w g2 (by rw [hzs]; omega) hone
    simp only [Nat.add_zero, hzs] at hst
    have c1 := setRow_heap w g cur ((cur.toList.take (l.toNat * sz) ++ (Builtin.zeroCells z.cells (s.len - l.toNat)).toList ++ cur.toList.drop (l.toNat * sz + (s.len - l.toNat) * sz)).toArray) e _ g2
    have c3 : ∀ cs, (w.setRow g cs).heap.size = w.heap.size := fun cs => by simp [World.setRow]
    have c2 : ∀ cs, Only (fun x => x = g) w (w.setRow g cs) := fun cs => ⟨rfl, rfl, rfl, by rw [c3]; exact Nat.le_refl _, fun k _ hk => setRow_other w g k _ hk⟩
    refine ⟨(), _, ?_, k _ ⟨Own.mk' g1 c1 (by dsimp only; omega) g4 ?_ ?_, fun b hb => h.blk b (by simpa [Sl.blk] using hb)⟩ ((c2 _).mono fun x _ e => by subst e; exact h.blk _ (by simp [Sl.blk, g1])) (c3 _)⟩
    · have hv : Sl.v ⟨if s.cap = l.toNat then s.a else s.a.map (·.add (l.toNat * sz)), s.len - l.toNat, s.cap - l.toNat⟩ = .slice (some ⟨g, l.toNat * sz, none⟩) (s.len - l.toNat) (s.cap - l.toNat) := by
        rw [Sl.v, if_neg hne, g1]
        simp [mk_add]
      rw [hv]
      have hzv : (zeroValue e).run P w = .ok z w := by simp [zeroValue, typeInfo, h3, h4]
      unfold Builtin.clear_
      obtain ⟨m, hm⟩ : ∃ m, s.len - l.toNat = m + 1 := ⟨s.len - l.toNat - 1, by omega⟩
      rw [hm] at hst ⊢
      simp [run_underlying h2, hzv, hst]
    · simp only [List.size_toArray, List.length_append, List.length_take, List.length_drop, Array.length_toList, size_zeroCells, h7]
      omega
    · dsimp only
      rw [← g6, List.take_take, Nat.min_eq_left (by omega), List.append_assoc, List.take_append_of_le_length (by rw [List.length_take, Array.length_toList]; omega), List.take_take, Nat.min_self]
end Go.Dec
