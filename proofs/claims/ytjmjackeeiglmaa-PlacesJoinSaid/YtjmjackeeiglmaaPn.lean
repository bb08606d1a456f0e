import Derived.Test.YtjmjackeeiglmaaPm
namespace Go.Proofs.Ytjmjackeeiglmaa
open Go.Dec Go.RowKit
set_option maxHeartbeats 400000

theorem ap23 : appOK Try.prog 23 3 1 8 = true := by kernel_rfl
theorem ap37 : appOK Try.prog 37 4 1 1 = true := by kernel_rfl
theorem zv3 : (Try.prog.info? 3).bind (·.zero) = some (.int .i64 0) := by kernel_rfl
theorem zv4 : (Try.prog.info? 4).bind (·.zero) = some (.bool false) := by kernel_rfl
theorem getq {α : Type} {l : List α} {i : Int} (h0 : 0 ≤ i) (h1 : i < l.length) : ∃ x, l[i.toNat]? = some x := ⟨_, List.getElem?_eq_getElem (by omega)⟩
theorem take_next {α : Type} {l : List α} {j : Nat} {x : α} (h : l[j]? = some x) : l.take (j + 1) = l.take j ++ [x] := by
  obtain ⟨hj, rfl⟩ := List.getElem?_eq_some_iff.1 h
  rw [List.take_succ_eq_append_getElem]

/-! ### which are marked -/
def idx (k : Int) : List Bool → List Int
  | [] => []
  | b :: r => if b = true then k :: idx (k + 1) r else idx (k + 1) r
theorem idx_snoc : ∀ (k : Int) (bs : List Bool) (b : Bool), idx k (bs ++ [b]) = idx k bs ++ (if b = true then [k + bs.length] else [])
  | k, [], b => by cases b <;> simp [idx]
  | k, a :: r, b => by
    have e : k + 1 + (r.length : Int) = k + ((r.length + 1 : Nat) : Int) := by omega
    cases a <;> cases b <;> simp [idx, idx_snoc (k + 1) r] <;> omega
theorem mem_idx : ∀ (k : Int) (bs : List Bool) (x : Int), x ∈ idx k bs ↔ k ≤ x ∧ bs[(x - k).toNat]? = some true
  | k, [], x => by simp [idx]
  | k, a :: r, x => by
    by_cases e : x = k
    · subst e
      cases a <;> simp [idx, mem_idx (x + 1) r] <;> omega
    · by_cases h : k ≤ x
      · have : (x - k).toNat = (x - (k + 1)).toNat + 1 := by omega
        rw [this]
        cases a <;> simp [idx, mem_idx (k + 1) r, e] <;> omega
      · cases a <;> simp [idx, mem_idx (k + 1) r, e] <;> omega
theorem idx_len : ∀ (k : Int) (bs : List Bool), (idx k bs).length ≤ bs.length
  | k, [] => by simp [idx]
  | k, a :: r => by
    have := idx_len (k + 1) r
    cases a <;> simp [idx] <;> omega
def marks (some_ : List Int) (n : Nat) : List Bool := (List.range n).map fun (i : Nat) => decide ((i : Int) ∈ some_)
theorem marks_len (some_ : List Int) (n : Nat) : (marks some_ n).length = n := by simp [marks]
theorem marks_get {some_ : List Int} {n i : Nat} (h : i < n) : (marks some_ n)[i]? = some (decide ((i : Int) ∈ some_)) := by simp [marks, h]

theorem indices_c (w : World) (s : Sl) (bs : List Bool) (h : Rd w cb 1 s bs) (hl : bs.length ≤ 1000000) :
    callC Try.prog 23 #[s.v] Sl.v w fun r w' => ∃ F, OwnF w' F 3 1 r ((idx 0 bs).flatMap ci) ∧ Fresh w w' F := by
  have hsl := h.len
  refine D23 _ w _ ?_
  unfold F23
  refine ⟨fun (c : Sl × Int) w' => 0 ≤ c.2 ∧ c.2 ≤ bs.length ∧ ∃ F, OwnF w' F 3 1 c.1 ((idx 0 (bs.take c.2.toNat)).flatMap ci) ∧ Fresh w w' F, fun c _ => (bs.length - c.2).toNat, ⟨by simp, by simp, _, OwnF.nil _ _ _ _, Fresh.none w⟩, ?_⟩
  rintro ⟨out, i⟩ w1 ⟨i0, i1, F, ho, hf⟩
  dsimp only at i0 i1 ho ⊢
  refine ⟨fun hi => ?_, fun hi => ?_⟩
  · have hlt : i < bs.length := by simpa [hsl] using hi
    obtain ⟨x, hx⟩ := getq i0 hlt
    have ht := take_next hx
    refine jn.mk (fun (c : Sl) w' => ∃ F, OwnF w' F 3 1 c ((idx 0 (bs.take (i.toNat + 1))).flatMap ci) ∧ Fresh w w' F) ?_ ?_
    · refine (h.keepQ hf.q).ix i0 hlt fun p y hy hat _ => hat.ld0 rfl ?_
      rw [hx] at hy
      injection hy with hy
      subst hy
      have hlen : (bs.take i.toNat).length = i.toNat := by rw [List.length_take]; omega
      rw [ht, idx_snoc, hlen]
      refine ⟨fun hc => ?_, fun hc => ?_⟩
      · have hil := idx_len 0 (bs.take i.toNat)
        have hol := (ho.rd ci1 (by decide)).len
        refine OwnF.push ap23 ho rfl rfl (by unfold maxLen; omega) (by omega) fun r w4 F' ho' _ st' => ⟨F', ?_, hf.stp st'⟩
        rw [if_pos hc, show (0 : Int) + (i.toNat : Int) = i by omega]
        simpa [ci] using ho'
      · rw [if_neg (by simp [hc])]
        exact ⟨F, by simpa using ho, hf⟩
    · rintro c w2 ⟨F', h1, h2⟩
      rw [w64 (by omega) (by omega)]
      exact ⟨⟨by (try dsimp only); omega, by (try dsimp only); omega, F', by rw [show (i + 1).toNat = i.toNat + 1 by omega]; exact h1, h2⟩, by (try dsimp only); omega⟩
  · have hge : bs.length ≤ i.toNat := by simp [hsl] at hi; omega
    rw [List.take_of_length_le hge] at ho
    exact ⟨F, ho, hf⟩

theorem marked_c (w : World) (s t : Sl) (some_ : List Int) (h : Rd w ci 1 t some_) (hl : s.len ≤ 1000000) (hs : some_.length ≤ 1000000) :
    callC Try.prog 22 #[s.v, t.v] Sl.v w fun r w' => ∃ F, OwnF w' F 4 1 r ((marks some_ s.len).flatMap cb) ∧ Fresh w w' F := by
  have htl := h.len
  refine D22 _ _ w _ ?_
  unfold F22
  refine rn_make1 ap37 zv4 rfl (by unfold maxLen; omega) (by omega) fun r1 w1 F1 ho1 hl1 hf1 => ?_
  rw [flat_rep (c := cb) (x := false) rfl] at ho1
  refine ⟨fun i w' => 0 ≤ i ∧ i ≤ some_.length ∧ OwnF w' F1 4 1 r1 ((marks (some_.take i.toNat) s.len).flatMap cb) ∧ Fresh w w' F1, fun i _ => (some_.length - i).toNat, ⟨by omega, by omega, ?_, hf1⟩, ?_⟩
  · have : marks (some_.take (0 : Int).toNat) s.len = List.replicate s.len false := by
      apply List.ext_getElem
      · simp [marks]
      · intro j h1 h2
        simp [marks]
    rw [this]
    exact ho1
  rintro i w2 ⟨i0, i1, ho, hf⟩
  refine ⟨fun hi => ?_, fun hi => ?_⟩
  · have hlt : i < some_.length := by simpa [htl] using hi
    obtain ⟨x, hx⟩ := getq i0 hlt
    have ht := take_next hx
    refine jn.mk (fun _ w' => OwnF w' F1 4 1 r1 ((marks (some_.take (i.toNat + 1)) s.len).flatMap cb) ∧ Fresh w w' F1) ?_ ?_
    · refine (h.keepQ hf.q).ix i0 hlt fun p y hy hat _ => hat.ld0 rfl ?_
      rw [hx] at hy
      injection hy with hy
      subst hy
      rw [ht]
      refine ⟨fun hc => ?_, fun hc => ?_⟩
      · have hc' : 0 ≤ x ∧ x < s.len := by simpa using hc
        have hm := marks_get (some_ := some_.take i.toNat) (n := s.len) (i := x.toNat) (by omega)
        refine ho.set0 (y := true) cb1 hc'.1 hm rfl (by decide) fun w4 ho4 on4 _ => ⟨?_, hf.only on4⟩
        have : marks (some_.take i.toNat ++ [x]) s.len = (marks (some_.take i.toNat) s.len).set x.toNat true := by
          apply List.ext_getElem
          · simp [marks]
          · intro j h1 h2
            simp only [marks, List.getElem_map, List.getElem_range, List.getElem_set, List.mem_append, List.mem_singleton]
            by_cases e : x.toNat = j
            · have : (j : Int) = x := by omega
              simp [e, this]
            · have : ¬ (j : Int) = x := by omega
              simp [e, this]
        rw [this]
        exact ho4
      · have hc' : ¬ (0 ≤ x ∧ x < s.len) := by simpa using hc
        have : marks (some_.take i.toNat ++ [x]) s.len = marks (some_.take i.toNat) s.len := by
          apply List.ext_getElem
          · simp [marks]
          · intro j h1 h2
            simp only [marks, List.length_map, List.length_range] at h1
            simp only [marks, List.getElem_map, List.getElem_range, List.mem_append, List.mem_singleton]
            have : ¬ (j : Int) = x := by omega
            simp [this]
        rw [this]
        exact ⟨ho, hf⟩
    · rintro c w3 ⟨h1, h2⟩
      rw [w64 (by omega) (by omega)]
      exact ⟨⟨by omega, by omega, by rw [show (i + 1).toNat = i.toNat + 1 by omega]; exact h1, h2⟩, by (try dsimp only); omega⟩
  · have hge : some_.length ≤ i.toNat := by simp [htl] at hi; omega
    rw [List.take_of_length_le hge] at ho
    exact ⟨F1, ho, hf⟩

theorem same_c (w : World) (s t : Sl) (a b : List Int) (ha : Rd w ci 1 s a) (hb : Rd w ci 1 t b) (hl : a.length ≤ 1000000) :
    callC Try.prog 12 #[s.v, t.v] (fun (r : Bool) => .bool r) w fun r w' => r = decide (a = b) ∧ Quiet w w' := by
  have hsl := ha.len
  have htl := hb.len
  refine D12 _ _ w _ ?_
  unfold F12
  refine ⟨fun hc => ?_, fun hc => ?_⟩
  · have : a ≠ b := fun e => by simp [hsl, htl, e] at hc
    simp [this, Only.refl]
  have hlen : a.length = b.length := by rw [hsl, htl] at hc; simp at hc; omega
  refine ⟨fun i w' => 0 ≤ i ∧ i ≤ a.length ∧ a.take i.toNat = b.take i.toNat ∧ Quiet w w', fun i _ => (a.length - i).toNat, ⟨by omega, by omega, by simp, Only.refl _ _⟩, ?_⟩
  rintro i w1 ⟨i0, i1, he, q1⟩
  refine ⟨fun hi => ?_, fun hi => ?_⟩
  · have hlt : i < a.length := by simpa [hsl] using hi
    obtain ⟨x, hx⟩ := getq i0 hlt
    obtain ⟨y, hy⟩ := getq (l := b) i0 (by omega)
    refine jn.mk (fun c w' => c = !decide (x = y) ∧ Quiet w w') ?_ ?_
    · show tk w1 _
      unfold tk
      have q2 : Quiet w w1.drew := q1.tr (Only.drew _ _)
      refine (ha.keepQ q2).ix i0 hlt fun p x' hx' hat _ => hat.ld0 rfl ((hb.keepQ q2).ix i0 (by omega) fun p' y' hy' hat' _ => hat'.ld0 rfl ?_)
      rw [hx] at hx'
      rw [hy] at hy'
      injection hx' with hx'
      injection hy' with hy'
      subst hx' hy'
      exact ⟨rfl, q2⟩
    · rintro c w3 ⟨rfl, q3⟩
      refine ⟨fun hc => ?_, fun hc => ?_⟩
      · have hne : x ≠ y := by simpa using hc
        have : a ≠ b := fun e => by rw [e, hy] at hx; injection hx with hx; exact hne hx.symm
        simp [this, q3]
      · have heq : x = y := by simpa using hc
        rw [w64 (by omega) (by omega)]
        refine ⟨⟨by omega, by omega, ?_, q3⟩, by (try dsimp only); omega⟩
        rw [show (i + 1).toNat = i.toNat + 1 by omega, take_next hx, take_next hy, he, heq]
  · have hge : a.length ≤ i.toNat := by simp [hsl] at hi; omega
    rw [List.take_of_length_le hge, List.take_of_length_le (by omega)] at he
    simp [he, q1]
end Go.Proofs.Ytjmjackeeiglmaa
