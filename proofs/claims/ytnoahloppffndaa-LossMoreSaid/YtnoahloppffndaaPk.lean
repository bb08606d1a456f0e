import Derived.Test.YtnoahloppffndaaPe
namespace Go.Proofs.Ytnoahloppffndaa
open Go.Dec Go.RowKit
set_option maxHeartbeats 800000

theorem nodup_len {α : Type} : ∀ {l m : List α}, l.Nodup → (∀ x ∈ l, x ∈ m) → l.length ≤ m.length
  | [], m, _, _ => Nat.zero_le _
  | x :: l, m, hn, hs => by
    obtain ⟨h1, h2⟩ := List.nodup_cons.1 hn
    obtain ⟨m1, m2, rfl⟩ := List.append_of_mem (hs x (by simp))
    have : l.length ≤ (m1 ++ m2).length := nodup_len h2 fun y hy => by
      have := hs y (by simp [hy])
      rw [List.mem_append, List.mem_cons] at this
      rw [List.mem_append]
      rcases this with h | h | h
      · exact .inl h
      · exact absurd (h ▸ hy) h1
      · exact .inr h
    simp at this ⊢
    omega
theorem nodup_back {α : Type} {l m : List α} (hn : l.Nodup) (hs : ∀ x ∈ l, x ∈ m) (hl : m.length ≤ l.length) : ∀ y ∈ m, y ∈ l := fun y hy => by
  refine Classical.byContradiction fun h => ?_
  have := nodup_len (l := y :: l) (m := m) (List.nodup_cons.2 ⟨h, hn⟩) fun z hz => by
    rcases List.mem_cons.1 hz with e | e
    · exact e ▸ hy
    · exact hs z e
  simp at this
  omega

/-- what Check accepts -/
structure Fine (a : Ap) : Prop where
  edit : a.edit = 0 ∨ a.edit = 2
  ew : a.edit = 0 → a.within = 0
  w : 0 ≤ a.within ∧ a.within ≤ 1073741824
  delete : 0 ≤ a.delete ∧ a.delete < 3
  thread : 0 ≤ a.thread ∧ a.thread < 3
  join : 0 ≤ a.join ∧ a.join < 3
  history : 0 ≤ a.history ∧ a.history < 2
  remove : 0 ≤ a.remove ∧ a.remove < 2
  level : 0 ≤ a.level ∧ a.level < 5
  size : 40 ≤ a.size ∧ a.size ≤ 4000
  parts : 1 ≤ a.parts ∧ a.parts ≤ 20
  files : 0 ≤ a.files ∧ a.files ≤ 4
  bytes : 0 ≤ a.bytes ∧ a.bytes ≤ 65536
  rate : 1 ≤ a.rate ∧ a.rate ≤ 1073741824
  down : 0 ≤ a.down ∧ a.down ≤ 1073741824
  window : 0 ≤ a.window ∧ a.window ≤ 1073741824
  keep : 0 ≤ a.keep ∧ a.keep ≤ 1073741824
  dw : ¬ (a.down ≠ 0 ∧ a.window ≤ a.down)
  tog1 : a.files = 0 ↔ a.bytes = 0
  tog2 : a.files = 0 ↔ a.types.length = 0
  name : wordP a.name = true
  words : ∀ t ∈ a.types, wordP t = true
  nodup : a.types.Nodup
theorem fine_iff (a : Ap) : CheckA a = 0 ↔ Fine a ∧ a.types.length ≤ 20 := by
  have hR : RightA a ↔ _ := Iff.rfl
  constructor
  · intro h
    unfold CheckA at h
    by_cases h1 : RightA a
    · by_cases h2 : RangeA a
      · by_cases h3 : a.types.Nodup
        · obtain ⟨g1, g2, ⟨g3, g4, g5⟩, g6⟩ := h1
          obtain ⟨k1, k2, k3, k4, k5, k6, k7⟩ := h2
          unfold nums9 at g1
          unfold pairs6 at g2
          simp only [List.mem_cons, List.not_mem_nil, or_false, forall_eq_or_imp, forall_eq] at g1 g2
          unfold numOK at g1
          unfold TogA at k7
          unfold typesOK at g6
          refine ⟨⟨g4, by omega, by omega, by omega, by omega, by omega, by omega, by omega, by omega, by omega, by omega, by omega, by omega, by omega, by omega, by omega, by omega, k6, k7.1, k7.2, g3, ?_, h3⟩, ?_⟩
          · split at g6
            · intro t ht
              have : a.types = [] := List.length_eq_zero_iff.1 g6.2
              rw [this] at ht
              cases ht
            · exact g6.2.2
          · split at g6 <;> omega
        · rw [if_neg (fun c => c h1), if_neg (fun c => c h2), if_pos h3] at h
          cases h
      · rw [if_neg (fun c => c h1), if_pos h2] at h
        cases h
    · rw [if_pos h1] at h
      cases h
  · rintro ⟨h, hlen⟩
    unfold CheckA
    have h1 : RightA a := by
      refine ⟨?_, ?_, ⟨h.name, h.edit, ?_⟩, ?_⟩
      · unfold nums9
        simp only [List.mem_cons, List.not_mem_nil, or_false, forall_eq_or_imp, forall_eq]
        unfold numOK
        have := h.w
        have := h.size
        have := h.parts
        have := h.files
        have := h.bytes
        have := h.rate
        have := h.down
        have := h.window
        have := h.keep
        omega
      · unfold pairs6
        simp only [List.mem_cons, List.not_mem_nil, or_false, forall_eq_or_imp, forall_eq]
        exact ⟨h.delete, h.thread, h.join, h.history, h.remove, h.level⟩
      · rintro ⟨e1, e2⟩
        have := h.ew e1
        omega
      · unfold typesOK
        have := h.tog1
        have := h.tog2
        split
        · omega
        · exact ⟨by omega, hlen, h.words⟩
    have h2 : RangeA a := ⟨h.size, h.parts, h.files.2, h.bytes.2, h.rate.1, h.dw, h.tog1, h.tog2⟩
    rw [if_neg (fun c => c h1), if_neg (fun c => c h2), if_neg (fun c => c h.nodup)]

theorem le_refl (a : Ap) : LeA a a := ⟨⟨by omega, by omega, by omega, by omega, by omega, by omega, by omega, by omega⟩, ⟨id, id, id⟩, by omega, fun _ h => h⟩
theorem le_trans {a b c : Ap} (h0 : 0 ≤ a.edit) (h1 : LeA a b) (h2 : LeA b c) : LeA a c := by
  obtain ⟨⟨x1, x2, x3, x4, x5, x6, x7, x8⟩, ⟨x9, x10, x11⟩, x12, x13⟩ := h1
  obtain ⟨⟨y1, y2, y3, y4, y5, y6, y7, y8⟩, ⟨y9, y10, y11⟩, y12, y13⟩ := h2
  exact ⟨⟨by omega, by omega, by omega, by omega, by omega, by omega, by omega, by omega⟩, ⟨fun e => y9 (x9 e), fun e => y10 (x10 e), fun e => y11 (x11 e)⟩, by omega, fun t h => y13 t (x13 t h)⟩
/-! ### bounds -/
theorem meet_parts (a b : Ap) : (meetA a b).files = (meet1 (meet0 a b)).files ∧ (meetA a b).bytes = (meet1 (meet0 a b)).bytes ∧ (meetA a b).types = (meet1 (meet0 a b)).types := ⟨rfl, rfl, rfl⟩
theorem meet_eq (a b : Ap) : (meetA a b).edit = min a.edit b.edit ∧ (meetA a b).delete = min a.delete b.delete ∧ (meetA a b).thread = min a.thread b.thread ∧ (meetA a b).size = min a.size b.size ∧ (meetA a b).parts = min a.parts b.parts ∧ (meetA a b).level = min a.level b.level ∧
    (meetA a b).react = (a.react && b.react) ∧ (meetA a b).quote = (a.quote && b.quote) ∧ (meetA a b).mention = (a.mention && b.mention) ∧ (meetA a b).within = meetW a b := by
  unfold meetA meet1
  split <;> exact ⟨rfl, rfl, rfl, rfl, rfl, rfl, rfl, rfl, rfl, rfl⟩
theorem meet_rules (a b : Ap) : (meetA a b).name = a.name ∧ (meetA a b).join = a.join ∧ (meetA a b).history = a.history ∧ (meetA a b).remove = a.remove ∧ (meetA a b).batch = a.batch ∧ (meetA a b).rate = a.rate ∧ (meetA a b).down = a.down ∧ (meetA a b).window = a.window ∧ (meetA a b).keep = a.keep := by
  unfold meetA meet1
  split <;> exact ⟨rfl, rfl, rfl, rfl, rfl, rfl, rfl, rfl, rfl⟩
/-- files, bytes and types of what both can do -/
theorem meet_cases (a b : Ap) : ((min a.files b.files = 0 ∨ min a.bytes b.bytes = 0 ∨ (a.types.filter fun t => decide (t ∈ b.types)).length = 0) ∧ (meetA a b).files = 0 ∧ (meetA a b).bytes = 0 ∧ (meetA a b).types = []) ∨
    (¬ (min a.files b.files = 0 ∨ min a.bytes b.bytes = 0 ∨ (a.types.filter fun t => decide (t ∈ b.types)).length = 0) ∧ (meetA a b).files = min a.files b.files ∧ (meetA a b).bytes = min a.bytes b.bytes ∧ (meetA a b).types = a.types.filter fun t => decide (t ∈ b.types)) := by
  by_cases h : min a.files b.files = 0 ∨ min a.bytes b.bytes = 0 ∨ (a.types.filter fun t => decide (t ∈ b.types)).length = 0
  · refine .inl ⟨h, ?_⟩
    have : meet1 (meet0 a b) = { meet0 a b with files := 0, bytes := 0, types := [] } := if_pos h
    obtain ⟨e1, e2, e3⟩ := meet_parts a b
    rw [e1, e2, e3, this]
    exact ⟨rfl, rfl, rfl⟩
  · refine .inr ⟨h, ?_⟩
    have : meet1 (meet0 a b) = meet0 a b := if_neg h
    obtain ⟨e1, e2, e3⟩ := meet_parts a b
    rw [e1, e2, e3, this]
    exact ⟨rfl, rfl, rfl⟩
theorem mem_fil {a b : Ap} {t : ByteArray} : t ∈ (a.types.filter fun t => decide (t ∈ b.types)) ↔ t ∈ a.types ∧ t ∈ b.types := by
  rw [List.mem_filter]
  simp
theorem meet_types_sub {a b : Ap} {t : ByteArray} (h : t ∈ (meetA a b).types) : t ∈ a.types ∧ t ∈ b.types := by
  rcases meet_cases a b with ⟨_, _, _, e⟩ | ⟨_, _, _, e⟩
  · rw [e] at h
    cases h
  · rw [e] at h
    exact mem_fil.1 h
theorem meetW_cases {a b : Ap} (ha : Fine a) (hb : Fine b) : (min a.edit b.edit = 0 ∧ meetW a b = 0) ∨ (a.edit = 2 ∧ b.edit = 2 ∧ ((a.within = 0 ∧ meetW a b = b.within) ∨ (a.within ≠ 0 ∧ b.within = 0 ∧ meetW a b = a.within) ∨ (a.within ≠ 0 ∧ b.within ≠ 0 ∧ meetW a b = min a.within b.within))) := by
  have := ha.edit
  have := hb.edit
  unfold meetW
  split
  · rename_i h
    exact .inl ⟨h, rfl⟩
  · refine .inr ⟨by omega, by omega, ?_⟩
    split
    · rename_i h
      exact .inl ⟨h, rfl⟩
    · split
      · rename_i h1 h2
        exact .inr (.inl ⟨h1, h2, rfl⟩)
      · rename_i h1 h2
        exact .inr (.inr ⟨h1, h2, rfl⟩)
theorem meet_le {a b : Ap} (ha : Fine a) (hb : Fine b) : LeA (meetA a b) a ∧ LeA (meetA a b) b := by
  obtain ⟨e1, e2, e3, e4, e5, e6, e7, e8, e9, e10⟩ := meet_eq a b
  have hW := meetW_cases ha hb
  have h1 := ha.files
  have h2 := hb.files
  have h3 := ha.bytes
  have h4 := hb.bytes
  have h5 := ha.w
  have h6 := hb.w
  have hfb : (meetA a b).files ≤ min a.files b.files ∧ (meetA a b).bytes ≤ min a.bytes b.bytes := by
    rcases meet_cases a b with ⟨_, e, e', _⟩ | ⟨_, e, e', _⟩ <;> omega
  refine ⟨⟨⟨by omega, by omega, by omega, by omega, by omega, by omega, by omega, by omega⟩, ⟨?_, ?_, ?_⟩, by omega, fun t h => (meet_types_sub h).1⟩, ⟨⟨by omega, by omega, by omega, by omega, by omega, by omega, by omega, by omega⟩, ⟨?_, ?_, ?_⟩, by omega, fun t h => (meet_types_sub h).2⟩⟩
  all_goals simp only [e7, e8, e9, Bool.and_eq_true]
  all_goals intro h
  all_goals first | exact h.1 | exact h.2
theorem le_meet {a b r : Ap} (ha : Fine a) (hb : Fine b) (hr : Fine r) : LeA r (meetA a b) ↔ LeA r a ∧ LeA r b := by
  have hre := hr.edit
  constructor
  · intro h
    obtain ⟨h1, h2⟩ := meet_le ha hb
    exact ⟨le_trans (by omega) h h1, le_trans (by omega) h h2⟩
  · rintro ⟨⟨⟨x1, x2, x3, x4, x5, x6, x7, x8⟩, ⟨x9, x10, x11⟩, x12, x13⟩, ⟨y1, y2, y3, y4, y5, y6, y7, y8⟩, ⟨y9, y10, y11⟩, y12, y13⟩
    obtain ⟨e1, e2, e3, e4, e5, e6, e7, e8, e9, e10⟩ := meet_eq a b
    have hW := meetW_cases ha hb
    have h0 := hr.files
    have h0' := hr.bytes
    have h1 := ha.files
    have h2 := hb.files
    have h3 := ha.bytes
    have h4 := hb.bytes
    have h5 := ha.w
    have h6 := hb.w
    have t1 := hr.tog1
    have t2 := hr.tog2
    have hsub : ∀ t ∈ r.types, t ∈ (a.types.filter fun t => decide (t ∈ b.types)) := fun t h => mem_fil.2 ⟨x13 t h, y13 t h⟩
    have hz : (a.types.filter fun t => decide (t ∈ b.types)).length = 0 → r.types.length = 0 := fun h => by
      rw [List.length_eq_zero_iff] at h
      rw [h] at hsub
      cases hrt : r.types with
      | nil => rfl
      | cons t l =>
        have := hsub t (by rw [hrt]; simp)
        cases this
    have hfb : r.files ≤ (meetA a b).files ∧ r.bytes ≤ (meetA a b).bytes ∧ ∀ t ∈ r.types, t ∈ (meetA a b).types := by
      rcases meet_cases a b with ⟨hc, e, e', e''⟩ | ⟨_, e, e', e''⟩
      · have : r.types.length = 0 := by
          rcases hc with hc | hc | hc
          · omega
          · omega
          · exact hz hc
        refine ⟨by omega, by omega, fun t h => ?_⟩
        rw [List.length_eq_zero_iff] at this
        rw [this] at h
        cases h
      · refine ⟨by omega, by omega, fun t h => ?_⟩
        rw [e'']
        exact hsub t h
    refine ⟨⟨by omega, by omega, by omega, by omega, by omega, hfb.1, hfb.2.1, by omega⟩, ⟨?_, ?_, ?_⟩, by omega, hfb.2.2⟩
    all_goals simp only [e7, e8, e9, Bool.and_eq_true]
    all_goals intro h
    · exact ⟨x9 h, y9 h⟩
    · exact ⟨x10 h, y10 h⟩
    · exact ⟨x11 h, y11 h⟩
theorem long_cases {a b : Ap} (ha : Fine a) (hb : Fine b) : (a.edit = 0 ∧ b.edit = 0 ∧ longA a b = 0) ∨ (a.edit = 2 ∧ b.edit = 0 ∧ longA a b = a.within) ∨ (a.edit = 0 ∧ b.edit = 2 ∧ longA a b = b.within) ∨ (a.edit = 2 ∧ b.edit = 2 ∧ (((a.within = 0 ∨ b.within = 0) ∧ longA a b = 0) ∨ (a.within ≠ 0 ∧ b.within ≠ 0 ∧ longA a b = max a.within b.within))) := by
  unfold longA
  rcases ha.edit with h1 | h1 <;> rcases hb.edit with h2 | h2
  · simp [h1, h2]
  · simp [h1, h2]
  · simp [h1, h2]
  · simp only [h1, h2]
    by_cases h3 : a.within = 0 ∨ b.within = 0
    · simp [h3]
    · simp [h3]
      omega
theorem mem_join {a b : Ap} {t : ByteArray} : t ∈ (joinA a b).types ↔ t ∈ a.types ∨ t ∈ b.types := by
  show t ∈ a.types ++ (b.types.filter fun t => !decide (t ∈ a.types)) ↔ _
  rw [List.mem_append, List.mem_filter]
  by_cases h : t ∈ a.types <;> simp [h]
theorem le_join {a b : Ap} (ha : Fine a) (hb : Fine b) : LeA a (joinA a b) ∧ LeA b (joinA a b) := by
  have hL := long_cases ha hb
  have h5 := ha.w
  have h6 := hb.w
  have e : (joinA a b).within = longA a b := rfl
  refine ⟨⟨⟨?_, ?_, ?_, ?_, ?_, ?_, ?_, ?_⟩, ⟨?_, ?_, ?_⟩, ?_, fun t h => mem_join.2 (.inl h)⟩, ⟨⟨?_, ?_, ?_, ?_, ?_, ?_, ?_, ?_⟩, ⟨?_, ?_, ?_⟩, ?_, fun t h => mem_join.2 (.inr h)⟩⟩
  all_goals first
    | (simp only [joinA]; omega)
    | (intro h; simp [joinA, h]; done)
    | (rw [e]; omega)
theorem join_le {a b r : Ap} (ha : Fine a) (hb : Fine b) : LeA (joinA a b) r ↔ LeA a r ∧ LeA b r := by
  constructor
  · intro h
    obtain ⟨h1, h2⟩ := le_join ha hb
    have := ha.edit
    have := hb.edit
    exact ⟨le_trans (by omega) h1 h, le_trans (by omega) h2 h⟩
  · rintro ⟨⟨⟨x1, x2, x3, x4, x5, x6, x7, x8⟩, ⟨x9, x10, x11⟩, x12, x13⟩, ⟨y1, y2, y3, y4, y5, y6, y7, y8⟩, ⟨y9, y10, y11⟩, y12, y13⟩
    have hL := long_cases ha hb
    have h5 := ha.w
    have h6 := hb.w
    have e : (joinA a b).within = longA a b := rfl
    have e' : (joinA a b).edit = max a.edit b.edit := rfl
    refine ⟨⟨?_, ?_, ?_, ?_, ?_, ?_, ?_, ?_⟩, ⟨?_, ?_, ?_⟩, ?_, fun t h => (mem_join.1 h).elim (x13 t) (y13 t)⟩
    · simp only [joinA]; omega
    · simp only [joinA]; omega
    · simp only [joinA]; omega
    · simp only [joinA]; omega
    · simp only [joinA]; omega
    · simp only [joinA]; omega
    · simp only [joinA]; omega
    · simp only [joinA]; omega
    · simp only [joinA, Bool.or_eq_true]
      exact fun h => h.elim x9 y9
    · simp only [joinA, Bool.or_eq_true]
      exact fun h => h.elim x10 y10
    · simp only [joinA, Bool.or_eq_true]
      exact fun h => h.elim x11 y11
    · rw [e, e']
      omega
end Go.Proofs.Ytnoahloppffndaa
