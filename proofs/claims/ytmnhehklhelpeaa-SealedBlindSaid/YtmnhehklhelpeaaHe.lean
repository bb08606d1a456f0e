import Derived.Test.YtmnhehklhelpeaaHd
namespace Go.Proofs.Ytmnhehklhelpeaa
open Go.Dec Go.RowKit
set_option maxHeartbeats 1600000
set_option maxRecDepth 10000

/-! ### plain: what joins -/
theorem agree_thru {l : List Pt} {k : Nat} (hd : Dis l) (h : AgreeP l k) : Thru (lag (l.take k)) l := fun s hs => by
  rw [← List.take_append_drop k l] at hs
  rcases List.mem_append.1 hs with e | e
  · exact lag_thru (hd.take k) s e
  · exact h s e
theorem lag_on {f : Int → Int} {l : List Pt} (hf : IsP l.length f) (ht : Thru f l) (hd : Dis l) (x : Int) : cg (lag l x) (f x) := thru_uniq (lag_P l) hf hd (lag_thru hd) ht x
theorem lag_onk {f : Int → Int} {l : List Pt} {k : Nat} (hk : k ≤ l.length) (hf : IsP k f) (ht : Thru f l) (hd : Dis l) (x : Int) : cg (lag (l.take k) x) (f x) :=
  lag_on (by rw [List.length_take, Nat.min_eq_left hk]; exact hf) (fun s hs => ht s (List.mem_of_mem_take hs)) (hd.take k) x
theorem agree_on {f : Int → Int} {l : List Pt} {k : Nat} (hf : IsP k f) (ht : Thru f l) (hd : Dis l) : AgreeP l k := fun s hs => by
  have hk : k ≤ l.length := by
    by_cases hk : k ≤ l.length
    · exact hk
    · rw [List.drop_of_length_le (by omega)] at hs
      cases hs
  exact (lag_onk hk hf ht hd s.x).trans (ht s (List.mem_of_mem_drop hs))
theorem dis_w {l : List Pt} {k : Int} (hw : WrongP l k = 0) : Dis l := by
  obtain ⟨hk, hin, hnd⟩ := wrong0 hw
  exact dis_of (fun s hs => (hin s hs).okp) hnd
theorem join_some {l : List Pt} {k : Int} {r : Int × Int} (h : JoinR l k r) (hw : WrongP l k = 0) (hl : k ≤ l.length) (ha : AgreeP l k.toNat) : Fld r.1 ∧ cg r.1 (lag (l.take k.toNat) 0) ∧ r.2 = 0 := by
  rcases h with ⟨h1, _⟩ | ⟨_, ⟨h1, _⟩ | ⟨_, ⟨h1, _⟩ | ⟨_, h2, h3, h4⟩⟩⟩
  · exact absurd hw h1
  · omega
  · exact absurd ha h1
  · exact ⟨h2, h3, h4⟩
theorem join_on {f : Int → Int} {l : List Pt} {k : Int} {r : Int × Int} (h : JoinR l k r) (hw : WrongP l k = 0) (hl : k ≤ l.length) (hf : IsP k.toNat f) (ht : Thru f l) : Fld r.1 ∧ cg r.1 (f 0) ∧ r.2 = 0 := by
  have hd := dis_w hw
  obtain ⟨h1, h2, h3⟩ := join_some h hw hl (agree_on hf ht hd)
  exact ⟨h1, h2.trans (lag_onk (by omega) hf ht hd 0), h3⟩
theorem join_few {l : List Pt} {k : Int} {r : Int × Int} (h : JoinR l k r) (hw : WrongP l k = 0) (hl : (l.length : Int) < k) : r = (0, 20) := by
  rcases h with ⟨h1, _⟩ | ⟨_, ⟨_, h1⟩ | ⟨h1, _⟩⟩
  · exact absurd hw h1
  · exact h1
  · omega
theorem join_off {l : List Pt} {k : Int} {r : Int × Int} (h : JoinR l k r) (hw : WrongP l k = 0) (hl : k ≤ l.length) (ha : ¬ AgreeP l k.toNat) : r = (0, 18) := by
  rcases h with ⟨h1, _⟩ | ⟨_, ⟨h1, _⟩ | ⟨_, ⟨_, h1⟩ | ⟨h1, _⟩⟩⟩
  · exact absurd hw h1
  · omega
  · exact h1
  · exact absurd h1 ha
theorem join_wrong {l : List Pt} {k : Int} {r : Int × Int} (h : JoinR l k r) (hw : WrongP l k ≠ 0) : r = (0, WrongP l k) := by
  rcases h with ⟨_, h1⟩ | ⟨h1, _⟩
  · exact h1
  · exact absurd h1 hw
theorem dis0 {l : List Pt} {x : Int} (hx : Fld x) (hin : ∀ s ∈ l, InR s) (hnd : (l.map Pt.x).Nodup) : Dis ((⟨0, x⟩ : Pt) :: l) := by
  refine dis_of (fun p hp => ?_) ?_
  · rcases List.mem_cons.1 hp with e | e
    · rw [e]
      exact ⟨by simp, hx⟩
    · exact (hin p e).okp
  · rw [List.map_cons, List.nodup_cons]
    refine ⟨fun hm => ?_, hnd⟩
    obtain ⟨p, hp, e⟩ := List.mem_map.1 hm
    have := (hin p hp).1.1
    dsimp only at e
    omega
theorem fits_on {f : Int → Int} {l : List Pt} {k x : Int} (hw : WrongP l k = 0) (hf : IsP k.toNat f) (ht : Thru f l) (hx : Fld x) (e : cg (f 0) x) : FitsR l k x := by
  obtain ⟨hk, hin, hnd⟩ := wrong0 hw
  refine ⟨hw, hx, agree_on hf (fun s hs => ?_) (dis0 hx hin hnd)⟩
  rcases List.mem_cons.1 hs with e' | e'
  · rw [e']
    exact e
  · exact ht s e'
theorem fits_few {l : List Pt} {k x : Int} (hw : WrongP l k = 0) (hl : (l.length : Int) < k) (hx : Fld x) : FitsR l k x := by
  refine ⟨hw, hx, fun s hs => ?_⟩
  rw [List.drop_of_length_le (by rw [List.length_cons]; omega)] at hs
  cases hs
theorem fits_eq {f : Int → Int} {l : List Pt} {k x : Int} (hw : WrongP l k = 0) (hl : k ≤ l.length) (hf : IsP k.toNat f) (ht : Thru f l) (h : FitsR l k x) : cg x (f 0) := by
  obtain ⟨hk, hin, hnd⟩ := wrong0 hw
  obtain ⟨_, hx, ha⟩ := h
  have tg := agree_thru (dis0 hx hin hnd) ha
  have hg : IsP k.toNat (lag (((⟨0, x⟩ : Pt) :: l).take k.toNat)) := by
    have := lag_P (((⟨0, x⟩ : Pt) :: l).take k.toNat)
    rwa [List.length_take, Nat.min_eq_left (by rw [List.length_cons]; omega)] at this
  have h0 := tg ⟨0, x⟩ (by simp)
  refine h0.symm.trans (hg.uniq hf (l := l.map Pt.x) (by rw [List.length_map]; omega) (dis_w hw).xs (fun y hy => ?_) 0)
  obtain ⟨p, hp, rfl⟩ := List.mem_map.1 hy
  exact (tg p (by simp [hp])).trans (ht p hp).symm

/-! ### plain: what is split -/
def splF (secret : Int) (k : Nat) (seed : Int) (x : Int) : Int := evp (secret :: facS (seedS seed) (k - 1)) x
theorem splF_P (secret : Int) {k : Nat} (seed : Int) (hk : 1 ≤ k) : IsP k (splF secret k seed) := ⟨_, by rw [List.length_cons, facS_len]; omega, fun x => cg.refl _⟩
theorem splF_0 (secret : Int) (k : Nat) (seed : Int) : splF secret k seed 0 = secret := by simp [splF, evp]
theorem spl_len (secret : Int) (k n : Nat) (seed : Int) : (splP secret k n seed).length = n := by simp [splP]
theorem spl_mem {secret : Int} {k n : Nat} {seed : Int} {s : Pt} (h : s ∈ splP secret k n seed) : ∃ i, i < n ∧ s = shAt secret k seed i := by
  obtain ⟨i, hi, e⟩ := List.mem_map.1 h
  exact ⟨i, List.mem_range.1 hi, e.symm⟩
theorem spl_thru (secret : Int) (k n : Nat) (seed : Int) : Thru (splF secret k seed) (splP secret k n seed) := fun s hs => by
  obtain ⟨i, hi, rfl⟩ := spl_mem hs
  exact (cgm _).symm
theorem spl_in {secret : Int} {k n : Nat} {seed : Int} (hn : n ≤ 20) : ∀ s ∈ splP secret k n seed, InR s := fun s hs => by
  obtain ⟨i, hi, rfl⟩ := spl_mem hs
  refine ⟨?_, mod_fld _⟩
  show 1 ≤ (i : Int) + 1 ∧ (i : Int) + 1 ≤ 20
  omega
theorem spl_x {secret : Int} {k n : Nat} {seed : Int} {s t : Pt} (hs : s ∈ splP secret k n seed) (ht : t ∈ splP secret k n seed) (h : s.x = t.x) : s = t := by
  obtain ⟨i, hi, rfl⟩ := spl_mem hs
  obtain ⟨j, hj, rfl⟩ := spl_mem ht
  have h : (i : Int) + 1 = (j : Int) + 1 := h
  have : i = j := by omega
  rw [this]
theorem sub_nd {secret : Int} {k n : Nat} {seed : Int} {m : List Pt} (hm : ∀ p ∈ m, p ∈ splP secret k n seed) (hn : m.Nodup) : (m.map Pt.x).Nodup := by
  rw [List.nodup_iff_pairwise_ne, List.pairwise_map]
  exact (List.nodup_iff_pairwise_ne.1 hn).imp_of_mem fun ha hb hne e => hne (spl_x (hm _ ha) (hm _ hb) e)
theorem spl_nd (secret : Int) (k n : Nat) (seed : Int) : (splP secret k n seed).Nodup := by
  rw [List.nodup_iff_pairwise_ne]
  unfold splP
  rw [List.pairwise_map]
  refine (List.nodup_iff_pairwise_ne.1 List.nodup_range).imp fun {a b} hne e => hne ?_
  have h : (a : Int) + 1 = (b : Int) + 1 := congrArg Pt.x e
  omega
theorem wrong_ok {l : List Pt} {k : Int} (hk : 1 ≤ k ∧ k ≤ 20) (hin : ∀ s ∈ l, InR s) (hnd : (l.map Pt.x).Nodup) : WrongP l k = 0 := by
  unfold WrongP
  rw [if_neg (by omega), if_neg (fun c => c hin), if_neg (fun c => c hnd)]
theorem spl_at {secret : Int} {k n : Nat} {seed : Int} {i : Nat} (hi : i < n) : (splP secret k n seed)[i]? = some (shAt secret k seed i) := by simp [splP, hi]


end Go.Proofs.Ytmnhehklhelpeaa
