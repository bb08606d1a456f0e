/-
  The raw operations, on rows of the call's own; what is fresh since a call began. Over any program.
-/
import Derived.Test.YtgbhghoppjfofaaGreatSep
import Derived.Test.YtgbhghoppjfofaaGreatDecRaw
namespace Go.Dec
open Go.RowKit

theorem Only.tr {a b c : World} (h : Quiet a b) (k : Quiet b c) : Quiet a c := (h.trans k).mono fun _ _ e => e.elim id id
/-- F's blocks have come since w0 -/
structure Fresh (w0 w : World) (F : Nat → Prop) : Prop where
  q : Quiet w0 w
  b : ∀ b, F b → w0.heap.size ≤ b ∧ b < w.heap.size
theorem Fresh.keep {w0 w w' : World} {F : Nat → Prop} (h : Fresh w0 w F) (q : Quiet w w') : Fresh w0 w' F := ⟨h.q.tr q, fun b hb => ⟨(h.b b hb).1, Nat.lt_of_lt_of_le (h.b b hb).2 q.size⟩⟩
theorem Fresh.stp {w0 w w' : World} {F F' : Nat → Prop} (h : Fresh w0 w F) (s : Stp F w F' w') : Fresh w0 w' F' := by
  have h1 := h.q.size
  have h2 := s.only.size
  refine ⟨(h.q.trans s.only).mono fun b hb e => e.elim id fun e => by have := (h.b b e).1; omega, fun b hb => ?_⟩
  rcases s.sub b hb with e | e
  · have := h.b b e
    omega
  · omega
/-- a step that writes among F alone -/
theorem Fresh.only {w0 w w' : World} {F : Nat → Prop} (h : Fresh w0 w F) (ho : Only F w w') : Fresh w0 w' F := h.stp ⟨ho, fun _ => .inl⟩
theorem Fresh.none (w : World) : Fresh w w (fun _ => False) := ⟨Only.refl _ w, fun _ e => e.elim⟩

theorem rn_make1 {P : Program} {w : World} {t e bytes : Nat} {z : Value} {n : Nat} {K : Sl → World → Prop} (hok : appOK P t e 1 bytes = true) (hz : (P.info? e).bind (·.zero) = some z) (hzc : z.cells = #[z]) (h63 : n ≤ maxLen) (hb : n * bytes ≤ 140737488355328)
    (k : ∀ r w' F', OwnF w' F' e 1 r (List.replicate n z) → r.len = n → Fresh w w' F' → K r w') : rn P (Instr.makeSlice t (.int .i64 (n : Int)) (.int .i64 (n : Int))) (fun r => Sl.v r) w K := by
  obtain ⟨i, z', h2, h3, h4, h5, h6, h7, h8⟩ := appOK.out hok
  have hzz : z' = z := by
    rw [h3] at hz
    simp only [Option.bind_some, h4] at hz
    exact Option.some.inj hz
  subst hzz
  have h63' : (n : Int) ≤ 9223372036854775807 := by unfold maxLen at h63; omega
  have hb' : (i.bytes : Int) * (n : Int) ≤ 281474976710656 := by
    rw [h6, ← Int.natCast_mul, Nat.mul_comm]
    omega
  have hr := run_make w t e i z' h2 h3 h4 .i64 .i64 n n (by omega) (Int.le_refl _) hb' h63'
  rw [Int.toNat_natCast, h5, Nat.mul_one, hzc] at hr
  have hB : Blk (w.alloc (.cells (madeCells #[z'] n) e)) w.heap.size e (madeCells #[z'] n) := heap_alloc_new w _
  refine ⟨⟨some ⟨w.heap.size, 0, none⟩, n, n⟩, _, hr, ?_⟩
  refine k _ _ (fun b => b = w.heap.size) ⟨Own.mk' rfl hB (Nat.le_refl _) h63 (by simp [size_madeCells]) ?_, fun b hb => ?_⟩ rfl ⟨Only.alloc _ w _, fun b hb => by simp [hb]⟩
  · have : (madeCells #[z'] n).toList = List.replicate n z' := by
      apply List.ext_getElem
      · simp [size_madeCells]
      · intro j h1 h2
        simp [madeCells]
        have : j % 1 = 0 := Nat.mod_one j
        simp [this]
    rw [this]
    simp
  · simpa [Sl.blk] using hb.symm
/-! ### a part of a slice -/
theorem elem_of {P : Program} {t e : TypeId} (h : P.underlying t = some (.slice e)) : P.elem t = e := by simp [Program.elem, h]
theorem rn_upto {P : Program} {α : Type} {w : World} {t e sz bytes : Nat} {s : Sl} {c : α → List Value} {l : List α} {h : Int} {K : Sl → World → Prop} (hok : appOK P t e sz bytes = true) (hr : Rd w c sz s l) (hc : s.len ≤ s.cap) (h0 : 0 ≤ h) (h1 : h ≤ l.length)
    (k : ∀ r, Rd w c sz r (l.take h.toNat) → r.len ≤ r.cap → r.a = s.a → K r w) : rn P (Instr.sliceAt t s.v none (some (.int .i64 h)) none) (fun r => Sl.v r) w K := by
  obtain ⟨i, z, h2, h3, h4, h5, h6, h7, h8⟩ := appOK.out hok
  have he := elem_of h2
  have hl := hr.len
  have hs : (sizeOf (P.elem t)).run P w = .ok sz w := by rw [he]; simp [sizeOf, typeInfo, h3, h5]
  have hrun := run_slice_h (w := w) t s.a s.len s.cap (by rw [he]; exact h2) .i64 h h0 (by omega)
  rw [hs] at hrun
  refine ⟨⟨s.a, h.toNat, s.cap⟩, w, ?_, k _ ⟨by show h.toNat = _; rw [List.length_take]; omega, fun j x hx => ?_⟩ (by show h.toNat ≤ s.cap; omega) rfl⟩
  · rw [run_sliceAt_slice (h := by rw [he]; exact h2)]
    show (Instr.slice t (.slice s.a s.len s.cap) none (some (.int .i64 h)) none).run P w = _
    rw [hrun]
    simp only [Result.andThen, sliced, Nat.zero_mul, Nat.sub_zero, Sl.v]
    congr 2
    split
    · rfl
    · cases s.a <;> simp
  · refine hr.2 j x ?_
    rw [List.getElem?_take] at hx
    split at hx
    · exact hx
    · cases hx

theorem OwnF.set0 {α : Type} {w : World} {F : Nat → Prop} {e sz : Nat} {s : Sl} {c : α → List Value} {l : List α} {i : Int} {x y : α} {u : Value} {K : World → Prop} (h : OwnF w F e sz s (l.flatMap c)) (hc : ∀ x, (c x).length = sz)
    (h0 : 0 ≤ i) (hx : l[i.toNat]? = some x) (hy : c y = (c x).set 0 u) (hj : 0 < sz)
    (k : ∀ w', OwnF w' F e sz s ((l.set i.toNat y).flatMap c) → Only F w w' → w'.heap.size = w.heap.size → K w') : ix s i sz fun p => st p [u] w K :=
  Own.set0 h.own hc h0 hx hy hj fun w' h1 h2 h3 => k w' ⟨h1, h.blk⟩ (h2.mono fun b _ hb => h.blk b hb) h3
theorem flat_rep {α : Type} {c : α → List Value} {x : α} {v : Value} (h : c x = [v]) (n : Nat) : List.replicate n v = (List.replicate n x).flatMap c := by
  induction n with
  | zero => rfl
  | succ n ih => rw [List.replicate_succ, List.replicate_succ, List.flatMap_cons, h, ih]; rfl
end Go.Dec
