import Derived.Test.YtadlnbdelkbboaaPk
namespace Go.Proofs.Ytadlnbdelkbboaa
open Go.Dec Go.RowKit
set_option maxHeartbeats 800000

theorem min_cases (x y : Int) : (x ≤ y ∧ min x y = x) ∨ (y ≤ x ∧ min x y = y) := by omega
theorem fine_meet {a b : Ap} (ha : Fine a) (hb : Fine b) : Fine (meetA a b) := by
  obtain ⟨e1, e2, e3, e4, e5, e6, e7, e8, e9, e10⟩ := meet_eq a b
  obtain ⟨k1, k2, k3, k4, k5, k6, k7, k8, k9⟩ := meet_rules a b
  clear e7 e8 e9
  have hfb : (meetA a b).files = 0 ∧ (meetA a b).bytes = 0 ∧ (meetA a b).types.length = 0 ∨ 0 < (meetA a b).files ∧ (meetA a b).files ≤ a.files ∧ 0 < (meetA a b).bytes ∧ (meetA a b).bytes ≤ a.bytes ∧ 0 < (meetA a b).types.length := by
    clear e1 e2 e3 e4 e5 e6 e10 k1 k2 k3 k4 k5 k6 k7 k8 k9
    have h6 := ha.files.1
    have h6' := hb.files.1
    have h7 := ha.bytes.1
    have h7' := hb.bytes.1
    rcases meet_cases a b with ⟨_, g1, g2, g3⟩ | ⟨g0, g1, g2, g3⟩
    · exact .inl ⟨g1, g2, by rw [g3]; rfl⟩
    · rw [g1, g2, g3]
      exact .inr (by omega)
  exact {
    edit := by
      rw [e1]
      have := ha.edit
      have := hb.edit
      omega
    ew := by
      rw [e1, e10]
      have := meetW_cases ha hb
      omega
    w := by
      rw [e10]
      have := meetW_cases ha hb
      have := ha.w
      have := hb.w
      omega
    delete := by
      rw [e2]
      have := ha.delete
      have := hb.delete
      omega
    thread := by
      rw [e3]
      have := ha.thread
      have := hb.thread
      omega
    join := by rw [k2]; exact ha.join
    history := by rw [k3]; exact ha.history
    remove := by rw [k4]; exact ha.remove
    level := by
      rw [e6]
      have := ha.level
      have := hb.level
      omega
    size := by
      rw [e4]
      have := ha.size
      have := hb.size
      omega
    parts := by
      rw [e5]
      have := ha.parts
      have := hb.parts
      omega
    files := by
      have := ha.files
      clear e1 e2 e3 e4 e5 e6 e10
      omega
    bytes := by
      have := ha.bytes
      clear e1 e2 e3 e4 e5 e6 e10
      omega
    rate := by rw [k6]; exact ha.rate
    down := by rw [k7]; exact ha.down
    window := by rw [k8]; exact ha.window
    keep := by rw [k9]; exact ha.keep
    dw := by rw [k7, k8]; exact ha.dw
    tog1 := by
      clear e1 e2 e3 e4 e5 e6 e10
      omega
    tog2 := by
      clear e1 e2 e3 e4 e5 e6 e10
      omega
    name := by rw [k1]; exact ha.name
    words := fun t h => ha.words t (meet_types_sub h).1
    nodup := by
      rcases meet_cases a b with ⟨_, _, _, g⟩ | ⟨_, _, _, g⟩
      · rw [g]
        exact List.nodup_nil
      · rw [g]
        exact ha.nodup.sublist List.filter_sublist }
theorem fine_join {a b : Ap} (ha : Fine a) (hb : Fine b) : Fine (joinA a b) := by
  have et : (joinA a b).types = a.types ++ b.types.filter fun t => !decide (t ∈ a.types) := rfl
  have hl : (joinA a b).types.length = 0 ↔ a.types.length = 0 ∧ b.types.length = 0 := by
    constructor
    · intro h
      rw [List.length_eq_zero_iff] at h
      constructor
      · cases hx : a.types with
        | nil => rfl
        | cons x l =>
          have : x ∈ (joinA a b).types := mem_join.2 (.inl (by rw [hx]; simp))
          rw [h] at this
          cases this
      · cases hx : b.types with
        | nil => rfl
        | cons x l =>
          have : x ∈ (joinA a b).types := mem_join.2 (.inr (by rw [hx]; simp))
          rw [h] at this
          cases this
    · rintro ⟨g1, g2⟩
      rw [List.length_eq_zero_iff] at g1 g2
      rw [et, g1, g2]
      rfl
  exact {
    edit := by
      show max a.edit b.edit = 0 ∨ max a.edit b.edit = 2
      have := ha.edit
      have := hb.edit
      omega
    ew := by
      show max a.edit b.edit = 0 → longA a b = 0
      have := long_cases ha hb
      have := ha.edit
      have := hb.edit
      omega
    w := by
      show 0 ≤ longA a b ∧ longA a b ≤ 1073741824
      have := long_cases ha hb
      have := ha.w
      have := hb.w
      omega
    delete := by
      show 0 ≤ max a.delete b.delete ∧ max a.delete b.delete < 3
      have := ha.delete
      have := hb.delete
      omega
    thread := by
      show 0 ≤ max a.thread b.thread ∧ max a.thread b.thread < 3
      have := ha.thread
      have := hb.thread
      omega
    join := ha.join
    history := ha.history
    remove := ha.remove
    level := by
      show 0 ≤ max a.level b.level ∧ max a.level b.level < 5
      have := ha.level
      have := hb.level
      omega
    size := by
      show 40 ≤ max a.size b.size ∧ max a.size b.size ≤ 4000
      have := ha.size
      have := hb.size
      omega
    parts := by
      show 1 ≤ max a.parts b.parts ∧ max a.parts b.parts ≤ 20
      have := ha.parts
      have := hb.parts
      omega
    files := by
      show 0 ≤ max a.files b.files ∧ max a.files b.files ≤ 4
      have := ha.files
      have := hb.files
      omega
    bytes := by
      show 0 ≤ max a.bytes b.bytes ∧ max a.bytes b.bytes ≤ 65536
      have := ha.bytes
      have := hb.bytes
      omega
    rate := ha.rate
    down := ha.down
    window := ha.window
    keep := ha.keep
    dw := ha.dw
    tog1 := by
      show max a.files b.files = 0 ↔ max a.bytes b.bytes = 0
      have := ha.tog1
      have := hb.tog1
      have := ha.files.1
      have := hb.files.1
      have := ha.bytes.1
      have := hb.bytes.1
      omega
    tog2 := by
      show max a.files b.files = 0 ↔ (joinA a b).types.length = 0
      have := ha.tog2
      have := hb.tog2
      have := ha.files.1
      have := hb.files.1
      omega
    name := ha.name
    words := fun t h => (mem_join.1 h).elim (ha.words t) (hb.words t)
    nodup := by
      rw [et, List.nodup_append]
      refine ⟨ha.nodup, hb.nodup.sublist List.filter_sublist, fun x hx y hy e => ?_⟩
      subst e
      rw [List.mem_filter] at hy
      simp [hx] at hy }
theorem join_len (a b : Ap) : (joinA a b).types.length ≤ a.types.length + b.types.length := by
  have : (joinA a b).types = a.types ++ b.types.filter fun t => !decide (t ∈ a.types) := rfl
  rw [this, List.length_append]
  have := List.length_filter_le (fun t => !decide (t ∈ a.types)) b.types
  omega
theorem meet_len (a b : Ap) : (meetA a b).types.length ≤ a.types.length := by
  rcases meet_cases a b with ⟨_, _, _, g⟩ | ⟨_, _, _, g⟩
  · rw [g]
    simp
  · rw [g]
    exact List.length_filter_le _ _
/-! ### absorbing -/
theorem ap_ext {a b : Ap} (h0 : a.name = b.name) (h1 : a.edit = b.edit) (h2 : a.within = b.within) (h3 : a.delete = b.delete) (h4 : a.react = b.react) (h5 : a.thread = b.thread) (h6 : a.quote = b.quote) (h7 : a.mention = b.mention) (h8 : a.size = b.size) (h9 : a.parts = b.parts) (h10 : a.files = b.files) (h11 : a.bytes = b.bytes) (h12 : a.types = b.types) (h13 : a.join = b.join) (h14 : a.history = b.history) (h15 : a.remove = b.remove) (h16 : a.level = b.level) (h17 : a.batch = b.batch) (h18 : a.rate = b.rate) (h19 : a.down = b.down) (h20 : a.window = b.window) (h21 : a.keep = b.keep) : a = b := by
  cases a
  cases b
  simp only [Ap.mk.injEq]
  exact ⟨h0, h1, h2, h3, h4, h5, h6, h7, h8, h9, h10, h11, h12, h13, h14, h15, h16, h17, h18, h19, h20, h21⟩
/-- what can do at most as much as something that has all its types -/
theorem meet_self {a b : Ap} (ha : Fine a) (h : LeA a b) (hw : meetW a b = a.within) : meetA a b = a := by
  obtain ⟨e1, e2, e3, e4, e5, e6, e7, e8, e9, e10⟩ := meet_eq a b
  obtain ⟨k1, k2, k3, k4, k5, k6, k7, k8, k9⟩ := meet_rules a b
  obtain ⟨⟨x1, x2, x3, x4, x5, x6, x7, x8⟩, ⟨x9, x10, x11⟩, x12, x13⟩ := h
  have hf : (a.types.filter fun t => decide (t ∈ b.types)) = a.types := List.filter_eq_self.2 fun t h => decide_eq_true (x13 t h)
  have t1 := ha.tog1
  have t2 := ha.tog2
  have h3 : (meetA a b).files = a.files ∧ (meetA a b).bytes = a.bytes ∧ (meetA a b).types = a.types := by
    rcases meet_cases a b with ⟨g0, g1, g2, g3⟩ | ⟨g0, g1, g2, g3⟩
    · rw [hf] at g0
      have hz : a.types.length = 0 := by omega
      refine ⟨by omega, by omega, ?_⟩
      rw [g3, List.length_eq_zero_iff.1 hz]
    · rw [hf] at g3
      exact ⟨by omega, by omega, g3⟩
  refine ap_ext k1 (by omega) (e10.trans hw) (by omega) ?_ (by omega) ?_ ?_ (by omega) (by omega) h3.1 h3.2.1 h3.2.2 k2 k3 k4 (by omega) k5 k6 k7 k8 k9
  · rw [e7]
    cases ha : a.react
    · rfl
    · rw [x9 ha]
      rfl
  · rw [e8]
    cases ha : a.quote
    · rfl
    · rw [x10 ha]
      rfl
  · rw [e9]
    cases ha : a.mention
    · rfl
    · rw [x11 ha]
      rfl
theorem join_self {a b : Ap} (h : LeA b a) (hw : longA a b = a.within) : joinA a b = a := by
  obtain ⟨⟨x1, x2, x3, x4, x5, x6, x7, x8⟩, ⟨x9, x10, x11⟩, x12, x13⟩ := h
  refine ap_ext rfl ?_ hw ?_ ?_ ?_ ?_ ?_ ?_ ?_ ?_ ?_ ?_ rfl rfl rfl ?_ rfl rfl rfl rfl rfl
  · show max a.edit b.edit = a.edit
    omega
  · show max a.delete b.delete = a.delete
    omega
  · show (a.react || b.react) = a.react
    cases hb : b.react
    · simp
    · rw [x9 hb]
      rfl
  · show max a.thread b.thread = a.thread
    omega
  · show (a.quote || b.quote) = a.quote
    cases hb : b.quote
    · simp
    · rw [x10 hb]
      rfl
  · show (a.mention || b.mention) = a.mention
    cases hb : b.mention
    · simp
    · rw [x11 hb]
      rfl
  · show max a.size b.size = a.size
    omega
  · show max a.parts b.parts = a.parts
    omega
  · show max a.files b.files = a.files
    omega
  · show max a.bytes b.bytes = a.bytes
    omega
  · show a.types ++ (b.types.filter fun t => !decide (t ∈ a.types)) = a.types
    rw [List.filter_eq_nil_iff.2 fun t h => by simp [x13 t h], List.append_nil]
  · show max a.level b.level = a.level
    omega
theorem meet_idem {a : Ap} (ha : Fine a) : meetA a a = a := meet_self ha (le_refl a) (by
  have := meetW_cases ha ha
  have := ha.edit
  have := ha.ew
  omega)
theorem join_idem {a : Ap} (ha : Fine a) : joinA a a = a := join_self (le_refl a) (by
  have := long_cases ha ha
  have := ha.edit
  have := ha.ew
  omega)
theorem meet_join {a b : Ap} (ha : Fine a) (hb : Fine b) : meetA a (joinA a b) = a := meet_self ha (le_join ha hb).1 (by
  have h1 := meetW_cases ha (fine_join ha hb)
  have h2 := long_cases ha hb
  have e1 : (joinA a b).edit = max a.edit b.edit := rfl
  have e2 : (joinA a b).within = longA a b := rfl
  have := ha.edit
  have := hb.edit
  have := ha.ew
  omega)
theorem join_meet {a b : Ap} (ha : Fine a) (hb : Fine b) : joinA a (meetA a b) = a := join_self (meet_le ha hb).1 (by
  have h1 := long_cases ha (fine_meet ha hb)
  have h2 := meetW_cases ha hb
  obtain ⟨e1, _, _, _, _, _, _, _, _, e10⟩ := meet_eq a b
  have := ha.edit
  have := hb.edit
  have := ha.ew
  have := ha.w
  have := hb.w
  omega)
theorem meet_comm {a b : Ap} (ha : Fine a) (hb : Fine b) : AlikeA (meetA a b) (meetA b a) := by
  have h1 := fine_meet ha hb
  have h2 := fine_meet hb ha
  rw [← alike_iff h1 h2, le_meet hb ha h1, le_meet ha hb h2]
  exact ⟨(meet_le ha hb).symm, (meet_le hb ha).symm⟩
theorem join_comm {a b : Ap} (ha : Fine a) (hb : Fine b) : AlikeA (joinA a b) (joinA b a) := by
  have h1 := fine_join ha hb
  have h2 := fine_join hb ha
  rw [← alike_iff h1 h2, join_le ha hb, join_le hb ha]
  exact ⟨(le_join hb ha).symm, (le_join ha hb).symm⟩
theorem le_iff_meet {a b : Ap} (ha : Fine a) (hb : Fine b) : LeA a b ↔ AlikeA (meetA a b) a := by
  rw [← alike_iff (fine_meet ha hb) ha, le_meet ha hb ha]
  exact ⟨fun h => ⟨(meet_le ha hb).1, le_refl a, h⟩, fun h => h.2.2⟩
theorem le_iff_join {a b : Ap} (ha : Fine a) (hb : Fine b) : LeA a b ↔ AlikeA (joinA a b) b := by
  rw [← alike_iff (fine_join ha hb) hb, join_le ha hb]
  exact ⟨fun h => ⟨⟨h, le_refl b⟩, (le_join ha hb).2⟩, fun h => h.1.1⟩
end Go.Proofs.Ytadlnbdelkbboaa
