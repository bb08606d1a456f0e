import Derived.Test.YtnoahloppffndaaPk
namespace Go.Proofs.Ytnoahloppffndaa
open Go.Dec Go.RowKit
set_option maxHeartbeats 800000

theorem min_cases (x y : Int) : (x ≤ y ∧ min x y = x) ∨ (y ≤ x ∧ min x y = y) := by omega
theorem fine_meet {a b : Ap} (ha : Fine a) (hb : Fine b) : Fine (meetA a b) := by
  obtain ⟨e1, e2, e3, e4, e5, e6, e7, e8, e9, e10⟩ := meet_eq a b
  obtain ⟨k1, k2, k3, k4, k5, k6, k7, k8, k9⟩ := meet_rules a b
  clear e7 e8 e9
  have hfb : (meetA a b).files = 0 ∧ (meetA a b).bytes = 0 ∧ (meetA a b).types.length = 0 ∨ 0 < (meetA a b).files ∧ (meetA a b).files ≤ a.files ∧ 0 < (meetA a b).bytes ∧ (meetA a b).bytes ≤ a.bytes ∧ 0 < (meetA a b).types.length := by
    clear e1 e2 e3 e4 e5 e6 e10 k1 k2 k3 k4 k5 k6 k7 k8 k9
    have h6 := ha.files.1
    have h6' := hb.files.1
    have h7 := ha.bytes.1
    have h7' := hb.bytes.1
    rcases meet_cases a b with ⟨_, g1, g2, g3⟩ | ⟨g0, g1, g2, g3⟩
    · exact .inl ⟨g1, g2, by rw [g3]; rfl⟩
    · rw [g1, g2, g3]
      exact .inr (by omega)
  exact {
    edit := by
      rw [e1]
      have := ha.edit
      have := hb.edit
      omega
    ew := by
      rw [e1, e10]
      have := meetW_cases ha hb
      omega
    w := by
      rw [e10]
      have := meetW_cases ha hb
      have := ha.w
      have := hb.w
      omega
    delete := by
      rw [e2]
      have := ha.delete
      have := hb.delete
      omega
    thread := by
      rw [e3]
      have := ha.thread
      have := hb.thread
      omega
    join := by rw [k2]; exact ha.join
    history := by rw [k3]; exact ha.history
    remove := by rw [k4]; exact ha.remove
    level := by
      rw [e6]
      have := ha.level
      have := hb.level
      omega
    size := by
      rw [e4]
      have := ha.size
      have := hb.size
      omega
    parts := by
      rw [e5]
      have := ha.parts
      have := hb.parts
      omega
    files := by
      have := ha.files
      clear e1 e2 e3 e4 e5 e6 e10
      omega
    bytes := by
      have := ha.bytes
      clear e1 e2 e3 e4 e5 e6 e10
      omega
    rate := by rw [k6]; exact ha.rate
    down := by rw [k7]; exact ha.down
    window := by rw [k8]; exact ha.window
    keep := by rw [k9]; exact ha.keep
    dw := by rw [k7, k8]; exact ha.dw
    tog1 := by
      clear e1 e2 e3 e4 e5 e6 e10
      omega
    tog2 := by
      clear e1 e2 e3 e4 e5 e6 e10
      omega
    name := by rw [k1]; exact ha.name
    words := fun t h => ha.words t (meet_types_sub h).1
    nodup := by
      rcases meet_cases a b with ⟨_, _, _, g⟩ | ⟨_, _, _, g⟩
      · rw [g]
        exact List.nodup_nil
      · rw [g]
        exact ha.nodup.sublist List.filter_sublist }
theorem fine_join {a b : Ap} (ha : Fine a) (hb : Fine b) : Fine (joinA a b) := by
  have et : (joinA a b).types = a.types ++ b.types.filter fun t => !decide (t ∈ a.types) := rfl
  have hl : (joinA a b).types.length = 0 ↔ a.types.length = 0 ∧ b.types.length = 0 := by
    constructor
    · intro h
      rw [List.length_eq_zero_iff] at h
      constructor
      · cases hx : a.types with
        | nil => rfl
        | cons x l =>
          have : x ∈ (joinA a b).types := mem_join.2 (.inl (by rw [hx]; simp))
          rw [h] at this
          cases this
      · cases hx : b.types with
        | nil => rfl
        | cons x l =>
          have : x ∈ (joinA a b).types := mem_join.2 (.inr (by rw [hx]; simp))
          rw [h] at this
          cases this
    · rintro ⟨g1, g2⟩
      rw [List.length_eq_zero_iff] at g1 g2
      rw [et, g1, g2]
      rfl
  exact {
    edit := by
      show max a.edit b.edit = 0 ∨ max a.edit b.edit = 2
      have := ha.edit
      have := hb.edit
      omega
    ew := by
      show max a.edit b.edit = 0 → longA a b = 0
      have := long_cases ha hb
      have := ha.edit
      have := hb.edit
      omega
    w := by
      show 0 ≤ longA a b ∧ longA a b ≤ 1073741824
      have := long_cases ha hb
      have := ha.w
      have := hb.w
      omega
    delete := by
      show 0 ≤ max a.delete b.delete ∧ max a.delete b.delete < 3
      have := ha.delete
      have := hb.delete
      omega
    thread := by
      show 0 ≤ max a.thread b.thread ∧ max a.thread b.thread < 3
      have := ha.thread
      have := hb.thread
      omega
    join := ha.join
    history := ha.history
    remove := ha.remove
    level := by
      show 0 ≤ max a.level b.level ∧ max a.level b.level < 5
      have := ha.level
      have := hb.level
      omega
    size := by
      show 40 ≤ max a.size b.size ∧ max a.size b.size ≤ 4000
      have := ha.size
      have := hb.size
      omega
    parts := by
      show 1 ≤ max a.parts b.parts ∧ max a.parts b.parts ≤ 20
      have := ha.parts
      have := hb.parts
      omega
    files := by
      show 0 ≤ max a.files b.files ∧ max a.files b.files ≤ 4
      have := ha.files
      have := hb.files
      omega
    bytes := by
      show 0 ≤ max a.bytes b.bytes ∧ max a.bytes b.bytes ≤ 65536
      have := ha.bytes
      have := hb.bytes
      omega
    rate := ha.rate
    down := ha.down
    window := ha.window
    keep := ha.keep
    dw := ha.dw
    tog1 := by
      show max a.files b.files = 0 ↔ max a.bytes b.bytes = 0
      have := ha.tog1
      have := hb.tog1
      have := ha.files.1
      have := hb.files.1
      have := ha.bytes.1
      have := hb.bytes.1
      omega
    tog2 := by
      show max a.files b.files = 0 ↔ (joinA a b).types.length = 0
      have := ha.tog2
      have := hb.tog2
      have := ha.files.1
      have := hb.files.1
      omega
    name := ha.name
    words := fun t h => (mem_join.1 h).elim (ha.words t) (hb.words t)
    nodup := by
      rw [et, List.nodup_append]
      refine ⟨ha.nodup, hb.nodup.sublist List.filter_sublist, fun x hx y hy e => ?_⟩
      subst e
      rw [List.mem_filter] at hy
      simp [hx] at hy }
theorem join_len (a b : Ap) : (joinA a b).types.length ≤ a.types.length + b.types.length := by
  have : (joinA a b).types = a.types ++ b.types.filter fun t => !decide (t ∈ a.types) := rfl
  rw [this, List.length_append]
  have := List.length_filter_le (fun t => !decide (t ∈ a.types)) b.types
  omega
theorem meet_len (a b : Ap) : (meetA a b).types.length ≤ a.types.length := by
  rcases meet_cases a b with ⟨_, _, _, g⟩ | ⟨_, _, _, g⟩
  · rw [g]
    simp
  · rw [g]
    exact List.length_filter_le _ _
end Go.Proofs.Ytnoahloppffndaa
