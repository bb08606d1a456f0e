/-
  A slice of the call's own that begins anywhere in its block: what is left of a queue. Over any program.
-/
import Derived.Test.YtgbhghoppjfofaaGreatBase
import Derived.ArgAppend
namespace Go.Dec
open Go.RowKit

structure Que (w : World) (F : Nat → Prop) (e sz : Nat) (s : Sl) (xs : List Value) : Prop where
  row : ∃ g off cur, s.a = some ⟨g, off, none⟩ ∧ Blk w g e cur ∧ F g ∧ s.len ≤ s.cap ∧ s.cap ≤ maxLen ∧ off + s.cap * sz ≤ cur.size ∧ xs.length = s.len * sz ∧ ∀ j u, xs[j]? = some u → cur[off + j]? = some u
section
variable {P : Program} {w w' : World} {F G : Nat → Prop} {t ty e sz bytes : Nat} {s : Sl} {xs news : List Value}
theorem Que.keep (h : Que w F e sz s xs) (ho : Only G w w') (hd : ∀ b, F b → ¬ G b) : Que w' F e sz s xs := by
  obtain ⟨g, off, cur, h1, h2, h3, h4⟩ := h.row
  exact ⟨g, off, cur, h1, h2.keep ho (hd g h3), h3, h4⟩
theorem Que.keepQ (h : Que w F e sz s xs) (ho : Quiet w w') : Que w' F e sz s xs := h.keep ho fun _ _ => id
theorem Que.mono (h : Que w F e sz s xs) (hs : ∀ b, F b → G b) : Que w G e sz s xs := by
  obtain ⟨g, off, cur, h1, h2, h3, h4⟩ := h.row
  exact ⟨g, off, cur, h1, h2, hs g h3, h4⟩
theorem Que.start {b n : Nat} {cs : Array Value} (h : Blk w b e cs) (hs : cs.size = n * sz) (hn : n ≤ maxLen) : Que w (fun x => x = b) e sz (⟨some ⟨b, 0, none⟩, n, n⟩ : Sl) cs.toList :=
  ⟨b, 0, cs, rfl, h, rfl, Nat.le_refl _, hn, by simp [hs], by simp [hs], fun j u hu => by simpa using hu⟩
theorem Que.rd {α : Type} {c : α → List Value} {l : List α} (h : Que w F e sz s (l.flatMap c)) (hc : ∀ x, (c x).length = sz) (h0 : 0 < sz) : Rd w c sz s l := by
  obtain ⟨g, off, cur, h1, h2, h3, h4, h5, h6, h7, h8⟩ := h.row
  rw [flat_len hc] at h7
  refine ⟨(Nat.eq_of_mul_eq_mul_right h0 h7).symm, fun i x hx => ⟨_, h1, fun j u hu => ?_⟩⟩
  rw [mk_add, mk_add, h2.cell, Nat.add_assoc]
  exact h8 _ _ (flat_at hc hx hu)
theorem Que.next {K : Sl → World → Prop} (hok : appOK P t e sz bytes = true) (h : Que w F e sz s (news ++ xs)) (hn : news.length = sz)
    (k : ∀ r, Que w F e sz r xs → r.len + 1 = s.len → K r w) : rn P (Instr.sliceAt t s.v (some (.int .i64 1)) none none) (fun r => Sl.v r) w K := by
  obtain ⟨i, z, h2, h3, h4, h5, h6, h7, h8⟩ := appOK.out hok
  have he := elem_of h2
  obtain ⟨g, off, cur, a1, a2, a3, a4, a5, a6, a7, a8⟩ := h.row
  have hu : P.underlying t = some (.slice (P.elem t)) := by
    rw [he]
    exact h2
  have hl : 1 ≤ s.len := by
    rcases Nat.eq_zero_or_pos s.len with e0 | e0
    · rw [e0, Nat.zero_mul, List.length_append, hn] at a7
      omega
    · exact e0
  have hs : (sizeOf (P.elem t)).run P w = .ok sz w := by rw [he]; simp [sizeOf, typeInfo, h3, h5]
  have hrun := run_slice_l (w := w) t s.a s.len s.cap hu .i64 1 (by omega) (by omega)
  rw [hs] at hrun
  have hcz : s.cap * sz = (s.cap - 1) * sz + sz := by
    rw [← Nat.succ_mul]
    congr 1
    omega
  have hlz : s.len * sz = (s.len - 1) * sz + sz := by
    rw [← Nat.succ_mul]
    congr 1
    omega
  refine ⟨⟨if s.cap = 1 then s.a else s.a.map (·.add (1 * sz)), s.len - 1, s.cap - 1⟩, w, ?_, k _ ?_ (by dsimp only; omega)⟩
  · rw [run_sliceAt_slice (h := by rw [he]; exact h2)]
    show (Instr.slice t (.slice s.a s.len s.cap) (some (.int .i64 1)) none none).run P w = _
    rw [hrun]
    rfl
  · have hx : xs.length = (s.len - 1) * sz := by
      rw [List.length_append, hn] at a7
      omega
    by_cases hc : s.cap = 1
    · have hx0 : xs = [] := List.eq_nil_of_length_eq_zero (by rw [hx, show s.len - 1 = 0 by omega, Nat.zero_mul])
      subst hx0
      refine ⟨g, off, cur, by simp [hc, a1], a2, a3, by dsimp only; omega, by dsimp only; omega, by dsimp only; omega, by simpa using hx, fun j u hu => by simp at hu⟩
    · refine ⟨g, off + sz, cur, by simp [hc, a1, mk_add], a2, a3, by dsimp only; omega, by dsimp only; omega, by dsimp only; omega, hx, fun j u hu => ?_⟩
      have := a8 (sz + j) u (by rw [List.getElem?_append_right (by omega), hn, show sz + j - sz = j by omega]; exact hu)
      rwa [← Nat.add_assoc] at this
theorem Que.push {K : Sl → World → Prop} (hok : appOK P t e sz bytes = true) (h : Que w F e sz s xs) (hF : ∀ b, F b → b < w.heap.size)
    (hn : news.length = sz) (h1 : news.all Value.oneCell' = true) (h63 : s.len + 1 ≤ maxLen) (hb : (s.len + 1) * bytes ≤ 140737488355328)
    (k : ∀ r w' F', Que w' F' e sz r (xs ++ news) → r.len = s.len + 1 → Stp F w F' w' → (∀ b, F' b → b < w'.heap.size) → K r w') :
    nw e news.toArray w fun b w1 => rn P (Builtin.append_ #[t, t] ty #[Sl.v s, Sl.v (⟨some ⟨b, 0, none⟩, 1, 1⟩ : Sl)]) Sl.v w1 K := by
  obtain ⟨i, z, i2, i3, i4, i5, i6, i7, i8⟩ := appOK.out hok
  refine nwL fun b w1 hB q gb _ lb => ?_
  obtain ⟨g, off, cur, a1, a2, a3, a4, a5, a6, a7, a8⟩ := (h.keepQ q).row
  have hsz := q.size
  have hat : ∀ j u, news[j]? = some u → w1.cell? ((⟨b, 0, none⟩ : Addr).add j) = some u := fun j u hu => by
    rw [mk_add, hB.cell]
    simpa using hu
  have hlt := Blk.lt a2
  by_cases hroom : s.len + 1 ≤ s.cap
  · have hfit : off + s.len * sz + news.length ≤ cur.size := by
      have := Nat.mul_le_mul_right sz hroom
      rw [Nat.succ_mul] at this
      omega
    have hst := run_storeCells_at P g (off + s.len * sz) e news 0 cur w1 a2 (by simpa using hfit) (ones h1)
    simp only [Nat.add_zero] at hst
    have hr : (Builtin.append_ #[t, t] ty #[.slice (some ⟨g, off, none⟩) s.len s.cap, .slice (some ⟨b, 0, none⟩) 1 1]).run P w1 = .ok (.slice (some ⟨g, off, none⟩) (s.len + 1) s.cap) (w1.setRow g (cur.toList.take (off + s.len * sz) ++ news ++ cur.toList.drop (off + s.len * sz + news.length)).toArray) := by
      have hf := run_firstCells_some (P := P) w1 sz 1 ⟨b, 0, none⟩ 1 1 news (by rw [hn]; simp) hat
      simp [Builtin.append_, run_underlying i2, sizeOf, typeInfo, i3, Builtin.lenOf, hroom, hf, i5, Addr.add_lit, hst]
    have c1 : Blk (w1.setRow g (cur.toList.take (off + s.len * sz) ++ news ++ cur.toList.drop (off + s.len * sz + news.length)).toArray) g e (cur.toList.take (off + s.len * sz) ++ news ++ cur.toList.drop (off + s.len * sz + news.length)).toArray := setRow_heap w1 g cur _ e _ a2
    have c3 : (w1.setRow g (cur.toList.take (off + s.len * sz) ++ news ++ cur.toList.drop (off + s.len * sz + news.length)).toArray).heap.size = w1.heap.size := by simp [World.setRow]
    have c2 : Only (fun x => x = g) w1 (w1.setRow g (cur.toList.take (off + s.len * sz) ++ news ++ cur.toList.drop (off + s.len * sz + news.length)).toArray) :=
      ⟨rfl, rfl, rfl, by rw [c3]; exact Nat.le_refl _, fun k _ hk => setRow_other w1 g k _ hk⟩
    generalize w1.setRow g (cur.toList.take (off + s.len * sz) ++ news ++ cur.toList.drop (off + s.len * sz + news.length)).toArray = w2 at *
    have hcl : cur.toList.length = cur.size := Array.length_toList
    refine ⟨⟨some ⟨g, off, none⟩, s.len + 1, s.cap⟩, w2, ?_, k _ _ (fun x => F x) ⟨g, off, _, rfl, c1, a3, hroom, a5, ?_, ?_, ?_⟩ rfl ⟨(q.trans c2).mono fun x hx e => ?_, fun x e => .inl e⟩ fun x e => ?_⟩
    · have : Sl.v s = .slice (some ⟨g, off, none⟩) s.len s.cap := by rw [Sl.v, a1]
      rw [this]
      exact hr
    · simp only [List.size_toArray, List.length_append, List.length_take, List.length_drop]
      omega
    · rw [List.length_append, a7, hn, Nat.succ_mul]
    · intro j u hu
      simp only [List.getElem?_toArray, List.append_assoc]
      by_cases hj : j < xs.length
      · rw [List.getElem?_append_left hj] at hu
        rw [List.getElem?_append_left (by rw [List.length_take]; omega), List.getElem?_take, if_pos (by omega), Array.getElem?_toList]
        exact a8 j u hu
      · rw [List.getElem?_append_right (by omega)] at hu
        have hjn := (List.getElem?_eq_some_iff.1 hu).1
        rw [List.getElem?_append_right (by rw [List.length_take]; omega), List.getElem?_append_left (by rw [List.length_take]; omega), List.length_take, show off + j - min (off + s.len * sz) cur.toList.length = j - xs.length by omega]
        exact hu
    · rcases e with e | e
      · exact e.elim
      · subst e
        exact a3
    · have := hF x e
      omega
  · obtain ⟨v', w', hr, hown, hg⟩ := run_append_arg_grows (P := P) w1 t ty e i z sz bytes i2 i3 i4 i5 i6 i7 i8 ⟨g, off, none⟩ s.len s.cap xs a7 (fun j u hu => by rw [mk_add, Blk.cell a2]; exact a8 j u hu) ⟨b, 0, none⟩ 1 1 news (by rw [hn]; simp) hat (by omega) h63 hb
    have hg' := Only.grown hg
    have hs' := hg'.size
    rcases hown.2 with ⟨_, e0⟩ | ⟨g', cap, cur', rfl, hbase, b1, b2, b3, b4, b5⟩
    · omega
    refine ⟨⟨some ⟨g', 0, none⟩, s.len + 1, cap⟩, w', ?_, k _ _ (fun x => x = g') ⟨g', 0, cur', rfl, b1, rfl, b2, b3, by dsimp only; omega, hown.1, ?_⟩ rfl ⟨(q.trans hg').mono fun x hx e => ?_, fun x e => ?_⟩ fun x e => ?_⟩
    · have : Sl.v s = .slice (some ⟨g, off, none⟩) s.len s.cap := by rw [Sl.v, a1]
      rw [this]
      exact hr
    · intro j u hu
      rw [← b5, List.getElem?_take] at hu
      split at hu
      · simpa using hu
      · cases hu
    · rcases e with e | e
      · exact e.elim
      · cases e
    · subst e
      have := Blk.lt b1
      exact .inr ⟨by omega, this⟩
    · subst e
      exact Blk.lt b1
end
/-- a loop whose invariant has something in it that is not in the loop's own state -/
theorem lp_ghost {α γ : Type} {body : (α → World → Prop) → α → World → Prop} {l : α} {w : World} (I : γ → α → World → Prop) (μ : γ → Nat) (g0 : γ) (h0 : I g0 l w)
    (step : ∀ (N : α → World → Prop) g l w, I g l w → (∀ g' l' w', I g' l' w' → μ g' < μ g → N l' w') → body N l w) : lp body l w := by
  have key : ∀ (p : Nat → Prop), (∃ k, p k) → ∃ k, p k ∧ ∀ j, p j → k ≤ j := fun p h => by
    obtain ⟨k, hk⟩ := h
    induction k using Nat.strongRecOn with
    | _ k ih =>
      by_cases e : ∃ j, j < k ∧ p j
      · obtain ⟨j, hj, hp⟩ := e
        exact ih j hj hp
      · exact ⟨k, hk, fun j hj => Nat.le_of_not_lt fun hlt => e ⟨j, hlt, hj⟩⟩
  classical
  refine ⟨fun l w => ∃ g, I g l w, fun l w => if h : ∃ k, ∃ g, I g l w ∧ μ g = k then Classical.choose (key _ h) else 0, ⟨g0, h0⟩, ?_⟩
  rintro l w ⟨g, hg⟩
  have hex : ∃ k, ∃ g, I g l w ∧ μ g = k := ⟨_, g, hg, rfl⟩
  obtain ⟨⟨g1, hg1, he⟩, _⟩ := Classical.choose_spec (key _ hex)
  refine step _ g1 l w hg1 fun g' l' w' h' hlt => ⟨⟨g', h'⟩, ?_⟩
  have hex' : ∃ k, ∃ g, I g l' w' ∧ μ g = k := ⟨_, g', h', rfl⟩
  dsimp only
  rw [dif_pos hex, dif_pos hex', ← he]
  exact Nat.lt_of_le_of_lt ((Classical.choose_spec (key _ hex')).2 _ ⟨g', h', rfl⟩) hlt
theorem Fresh.after {w0 w1 w : World} {F : Nat → Prop} (f : Fresh w1 w F) (q : Quiet w0 w1) : Fresh w0 w F := ⟨q.tr f.q, fun b hb => ⟨Nat.le_trans q.size (f.b b hb).1, (f.b b hb).2⟩⟩
theorem Objs.t0 {W w w' : World} {F G H I F' : Nat → Prop} (h : Objs W w (four F G H I)) (st : Stp F w F' w') : Objs W w' (four F' G H I) := (h.step 0 st).congr (four_upd 0 F')
theorem Objs.t1 {W w w' : World} {F G H I F' : Nat → Prop} (h : Objs W w (four F G H I)) (st : Stp G w F' w') : Objs W w' (four F F' H I) := (h.step 1 st).congr (four_upd 1 F')
theorem Objs.t2 {W w w' : World} {F G H I F' : Nat → Prop} (h : Objs W w (four F G H I)) (st : Stp H w F' w') : Objs W w' (four F G F' I) := (h.step 2 st).congr (four_upd 2 F')
theorem Objs.dj4 {W w : World} {F G H I : Nat → Prop} (h : Objs W w (four F G H I)) : (∀ b, F b → ¬ G b) ∧ (∀ b, F b → ¬ H b) ∧ (∀ b, G b → ¬ H b) ∧ (∀ b, G b → ¬ F b) ∧ (∀ b, H b → ¬ F b) ∧ (∀ b, H b → ¬ G b) :=
  ⟨h.dj (i := 0) (j := 1) (by decide), h.dj (i := 0) (j := 2) (by decide), h.dj (i := 1) (j := 2) (by decide), h.dj (i := 1) (j := 0) (by decide), h.dj (i := 2) (j := 0) (by decide), h.dj (i := 2) (j := 1) (by decide)⟩
end Go.Dec
