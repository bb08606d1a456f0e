import Derived.Test.YtgbhghoppjfofaaGreatLk
namespace Go.Proofs.YtgbhghoppjfofaaGreat
open Go.Dec Go.RowKit
set_option maxHeartbeats 400000

theorem lead_true : ∀ {l : List Bool} {i : Nat}, i < lead l → l[i]? = some true
  | [], i, h => by simp [lead] at h
  | b :: r, i, h => by
    unfold lead at h
    split at h
    · rename_i hb
      subst hb
      cases i with
      | zero => rfl
      | succ i => simpa using lead_true (l := r) (i := i) (by omega)
    · omega
theorem lead_false : ∀ {l : List Bool}, l[lead l]? ≠ some true
  | [] => by simp [lead]
  | b :: r => by
    unfold lead
    split
    · simpa using lead_false (l := r)
    · rename_i hb
      simpa using hb
theorem fin_get {Q : RS} {j : Nat} : Q.fin.H[j]? = some true ↔ Q.H[lead Q.H + j]? = some true := by
  unfold RS.fin
  dsimp only
  have hl := lead_le Q.H
  by_cases h : j < (Q.H.drop (lead Q.H)).length
  · rw [List.getElem?_append_left h, List.getElem?_drop]
  · rw [List.getElem?_append_right (by omega)]
    rw [List.length_drop] at h
    rw [List.getElem?_eq_none (l := Q.H) (by omega), List.getElem?_replicate]
    split <;> simp
theorem fin_head {Q : RS} : Q.fin.H[0]? ≠ some true := by
  intro h
  rw [fin_get, Nat.add_zero] at h
  exact lead_false h
/-- what is marked behind a frame -/
theorem take_get {Q : RS} {f : Int} (hk : Q.ok) (p : Int) (hp : (Q.take f).R ≤ p) : ((Q.take f).H[(p - (Q.take f).R).toNat]? = some true) ↔ (Q.H[(p - Q.R).toNat]? = some true ∨ (¬ Q.out f ∧ p = f)) := by
  have hh := hk.h
  unfold RS.take at hp ⊢
  by_cases ho : Q.out f
  · rw [if_pos ho]
    simp [ho]
  · rw [if_neg ho] at hp ⊢
    have hR : (Q.mark f).fin.R = Q.R + lead (Q.mark f).H := rfl
    rw [fin_get]
    rw [hR] at hp ⊢
    have e : lead (Q.mark f).H + (p - (Q.R + lead (Q.mark f).H)).toNat = (p - Q.R).toNat := by omega
    rw [e]
    unfold RS.out at ho
    show (Q.H.set (f - Q.R).toNat true)[(p - Q.R).toNat]? = some true ↔ _
    by_cases h1 : p = f
    · subst h1
      rw [List.getElem?_set_self (by omega)]
      unfold RS.out
      simp [ho]
    · rw [List.getElem?_set_ne (by omega)]
      simp [h1]
structure Lk (S : SS) (Q : RS) : Prop where
  so : S.ok
  qo : Q.ok
  w : S.W = Q.W
  rN : Q.R ≤ S.N
  rB : Q.R ≤ S.B + S.W
  bR : S.B ≤ Q.R
  mkd : ∀ p : Int, Q.R ≤ p → Q.H[(p - Q.R).toNat]? = some true → p < S.N ∧ p < S.B + S.W
  hd : Q.H[0]? ≠ some true
theorem Lk.start {n : Int} (h : win n) : Lk ⟨n, 0, 0⟩ (RS.new n) := by
  have h' := h
  unfold win at h'
  refine ⟨⟨h.1, h.2, Int.le_refl _, Int.le_refl _, show (0 : Int) ≤ 900 by decide⟩, RS.new_ok h, rfl, Int.le_refl _, ?_, Int.le_refl _, fun p _ hm => ?_, ?_⟩
  · show (0 : Int) ≤ 0 + n
    omega
  · unfold RS.new at hm
    dsimp only at hm
    rw [List.getElem?_replicate] at hm
    split at hm <;> simp at hm
  · unfold RS.new
    dsimp only
    rw [List.getElem?_replicate]
    split <;> simp
theorem Lk.send {S : SS} {Q : RS} (h : Lk S Q) (hn : S.N < 900) : Lk S.send Q := by
  obtain ⟨s0, s1, s2, s3, s4⟩ := h.so
  refine ⟨⟨s0, s1, s2, ?_, ?_⟩, h.qo, h.w, ?_, h.rB, h.bR, fun p hp hm => ?_, h.hd⟩
  · show S.B ≤ S.N + 1
    omega
  · show S.N + 1 ≤ 900
    omega
  · have := h.rN
    show Q.R ≤ S.N + 1
    omega
  · have := h.mkd p hp hm
    exact ⟨by show p < S.N + 1; omega, this.2⟩
theorem Lk.ack {S : SS} {Q : RS} (h : Lk S Q) {n : Int} (n0 : 0 ≤ n) (n1 : n ≤ Q.R) : S.err n = 0 ∧ Lk (S.ack n) Q ∧ (S.ack n).B = max S.B n ∧ (S.ack n).N = S.N ∧ (S.ack n).W = S.W := by
  have h1 := h.rN
  have h2 := h.rB
  have h3 := h.bR
  have hno : ¬ (n < 0 ∨ S.N < n ∨ S.B + S.W < n) := by omega
  have ha := h.so.ack n
  have e : S.ack n = { S with B := max S.B n } := by unfold SS.ack; rw [if_neg hno]
  refine ⟨by unfold SS.err; rw [if_neg hno], ?_, by rw [e], by rw [e], by rw [e]⟩
  rw [e] at ha ⊢
  refine ⟨ha, h.qo, h.w, h1, ?_, ?_, fun p hp hm => ?_, h.hd⟩
  · show Q.R ≤ max S.B n + S.W
    omega
  · show max S.B n ≤ Q.R
    omega
  · have := h.mkd p hp hm
    exact ⟨this.1, by show p < max S.B n + S.W; omega⟩
theorem Lk.take {S : SS} {Q : RS} (h : Lk S Q) {f : Int} (f1 : f < S.N) (f2 : f < S.B + S.W) : Lk S (Q.take f) := by
  have h1 := h.rN
  have h4 := h.so.n1
  have hr := RS.take_R h.qo f
  have hqo := h.qo.take f (by omega)
  have hd : (Q.take f).H[0]? ≠ some true := by
    unfold RS.take
    split
    · exact h.hd
    · exact fin_head
  -- all numbers below the new R were marked
  have hall : ∀ p : Int, Q.R ≤ p → p < (Q.take f).R → p < S.N ∧ p < S.B + S.W := by
    intro p p0 p1
    unfold RS.take at p1
    by_cases ho : Q.out f
    · rw [if_pos ho] at p1
      omega
    · rw [if_neg ho] at p1
      have hR : (Q.mark f).fin.R = Q.R + lead (Q.mark f).H := rfl
      rw [hR] at p1
      have hm := lead_true (l := (Q.mark f).H) (i := (p - Q.R).toNat) (by omega)
      have e : (Q.mark f).H = Q.H.set (f - Q.R).toNat true := rfl
      rw [e] at hm
      by_cases h1 : (f - Q.R).toNat = (p - Q.R).toNat
      · unfold RS.out at ho
        have : p = f := by omega
        omega
      · rw [List.getElem?_set_ne h1] at hm
        exact h.mkd p p0 hm
  have hb : (Q.take f).R ≤ S.N ∧ (Q.take f).R ≤ S.B + S.W := by
    by_cases e : (Q.take f).R = Q.R
    · rw [e]
      exact ⟨h.rN, h.rB⟩
    · have := hall ((Q.take f).R - 1) (by omega) (by omega)
      omega
  have hW : (Q.take f).W = Q.W := by unfold RS.take; split <;> rfl
  refine ⟨h.so, hqo, h.w.trans hW.symm, hb.1, hb.2, by have := h.bR; omega, fun p hp hm => ?_, hd⟩
  rcases (take_get h.qo p hp).1 hm with e | ⟨_, e⟩
  · exact h.mkd p (by omega) e
  · omega

/-! ### the examples -/
theorem got_len {Q : RS} (f : Int) : ((Q.got f).length : Int) = (Q.take f).R - Q.R := by
  unfold RS.got RS.take
  split
  · simp
  · rw [seqI_len]
    show _ = Q.R + _ - Q.R
    omega
theorem got_get {Q : RS} {f : Int} {k : Nat} (h : k < (Q.got f).length) : (Q.got f)[k]? = some (Q.R + k) := by
  unfold RS.got at h ⊢
  split
  · rename_i ho
    rw [if_pos ho] at h
    simp at h
  · rename_i ho
    rw [if_neg ho, seqI_len] at h
    exact seqI_get h
theorem frames_mem {S : SS} (hk : S.ok) {f : Int} (h : f ∈ S.frames) : f < S.N ∧ f < S.B + S.W := by
  obtain ⟨k0, k1, k2, k3, k4⟩ := hk
  have := mem_seqI.1 h
  omega

end Go.Proofs.YtgbhghoppjfofaaGreat
