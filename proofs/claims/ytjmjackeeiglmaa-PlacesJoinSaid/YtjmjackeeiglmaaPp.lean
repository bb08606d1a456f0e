import Derived.Test.YtjmjackeeiglmaaPo
namespace Go.Proofs.Ytjmjackeeiglmaa
open Go.Dec Go.RowKit
set_option maxHeartbeats 400000

theorem mem_idx0 {bs : List Bool} {f : Int} (h0 : 0 ≤ f) : decide (f ∈ idx 0 bs) = bs.getD f.toNat false := by
  have := mem_idx 0 bs f
  rw [Int.sub_zero] at this
  rw [List.getD_eq_getElem?_getD]
  cases e : bs[f.toNat]? with
  | none => simp [this, e]
  | some b => cases b <;> simp [this, e, h0]

theorem rreach_c (w : World) (s t : Sl) (l : List Pl) (roots : List Int) (h : Args w s l t roots) :
    callC Try.prog 14 #[s.v, t.v] Sl.v w fun r w' => ∃ F, OwnF w' F 3 1 r ((reachP roots l).flatMap ci) ∧ Fresh w w' F := by
  obtain ⟨hP, hs, l1, f1, s1⟩ := h
  have hsl := hP.len
  refine D14 _ _ w _ ?_
  unfold F14
  refine (rright_c w s l hP l1 fun p hp => by have := f1 p hp; omega).use ?_
  rintro r w1 ⟨hr, q1⟩
  refine ⟨fun hc => ?_, fun hc => ?_⟩
  · have : ¬ RtP l := fun e => by rw [hr.2 e] at hc; cases hc
    unfold reachP
    rw [if_neg this]
    exact ⟨_, OwnF.nil _ _ _ _, (Fresh.none w).keep q1⟩
  have hR : RtP l := hr.1 (by simpa using hc)
  have hll := hR.len
  unfold reachP
  rw [if_pos hR]
  refine ⟨fun (c : Sl × Int) w' => 0 ≤ c.2 ∧ c.2 ≤ l.length ∧ ∃ F, OwnF w' F 3 1 c.1 ((idx 0 (fl roots (l.take c.2.toNat))).flatMap ci) ∧ Fresh w w' F, fun c _ => (l.length - c.2).toNat, ⟨by simp, by simp, fun _ => False, by simpa [fl, idx] using OwnF.nil _ _ _ _, (Fresh.none w).keep q1⟩, ?_⟩
  rintro ⟨out, i⟩ w2 ⟨i0, i1, F, ho, hf⟩
  dsimp only at i0 i1 ho ⊢
  refine ⟨fun hi => ?_, fun hi => ?_⟩
  · have hlt : i < l.length := by simpa [hsl] using hi
    obtain ⟨x, hx⟩ := getq i0 hlt
    have hO := hR.ok _ _ hx
    have hxl := f1 x (List.mem_of_getElem? hx)
    have hflen : (fl roots (l.take i.toNat)).length = i.toNat := by rw [fl_len, List.length_take]; omega
    have hil := idx_len 0 (fl roots (l.take i.toNat))
    have hol := (ho.rd ci1 (by decide)).len
    have rd : ∀ {K : Addr → Prop}, (∀ p fs, AtC w2 p [.int .i64 x.kind, .int .i64 x.id, fs.v] → Rd w2 ci 1 fs x.frm → K p) → ix s i 3 K := fun kk => (hP.keepQ hf.q).ix i0 hlt fun p y fs hy hat hfs => by
      rw [hx] at hy
      injection hy with hy
      subst hy
      exact kk p fs hat hfs
    refine jn.mk (fun (c : Sl) w' => ∃ F, OwnF w' F 3 1 c ((idx 0 (fl roots (l.take (i.toNat + 1)))).flatMap ci) ∧ Fresh w w' F) ?_ ?_
    · refine (has_c w2 t roots i (hs.keepQ hf.q) s1).use ?_
      rintro r7 w4 ⟨rfl, rfl⟩
      refine ⟨fun (c : Bool × Int) w' => 0 ≤ c.2 ∧ c.2 ≤ x.frm.length ∧ c.1 = (decide (i ∈ roots) || (x.frm.take c.2.toNat).any fun f => (fl roots (l.take i.toNat)).getD f.toNat false) ∧ w2 = w', fun c _ => (x.frm.length - c.2).toNat, ⟨by simp, by simp, by simp, rfl⟩, ?_⟩
      rintro ⟨v, k⟩ w5 ⟨k0, k1, hv, rfl⟩
      dsimp only at k0 k1 hv ⊢
      refine rd fun p fs hat hfs => hat.ld (j := 2) (x := fs) rfl ⟨fun hk => ?_, fun hk => ?_⟩
      · have hlt2 : k < x.frm.length := by simpa [hfs.len] using hk
        obtain ⟨f, hf'⟩ := getq k0 hlt2
        obtain ⟨f0, f1'⟩ := hO.mem (List.mem_of_getElem? hf')
        refine jn.mk (fun c w' => c = (v || (fl roots (l.take i.toNat)).getD f.toNat false) ∧ w2 = w') ⟨fun hc => ⟨by rw [hc]; rfl, rfl⟩, fun hc => rd fun p fs hat hfs => hat.ld (j := 2) (x := fs) rfl (hfs.ix k0 hlt2 fun p' g hg hat' _ => hat'.ld0 rfl ?_)⟩ ?_
        · rw [hf'] at hg
          injection hg with hg
          subst hg
          refine (has_c w2 out _ f (ho.rd ci1 (by decide)) (by omega)).use ?_
          rintro r w6 ⟨rfl, rfl⟩
          exact ⟨by rw [hc, mem_idx0 f0]; rfl, rfl⟩
        · rintro c w7 ⟨rfl, rfl⟩
          rw [w64 (by omega) (by omega)]
          refine ⟨⟨by (try dsimp only); omega, by (try dsimp only); omega, ?_, rfl⟩, by (try dsimp only); omega⟩
          rw [show (k + 1).toNat = k.toNat + 1 by omega, take_next hf', List.any_append, hv]
          simp [Bool.or_assoc]
      · have hge : x.frm.length ≤ k.toNat := by simp [hfs.len] at hk; omega
        rw [List.take_of_length_le hge] at hv
        have hru : v = rule roots (fl roots (l.take i.toNat)) x := by
          unfold rule
          rw [hv, hflen, show ((i.toNat : Nat) : Int) = i by omega]
        rw [take_next hx, fl_snoc, idx_snoc, hflen, ← hru]
        refine ⟨fun hc => ?_, fun hc => ?_⟩
        · refine OwnF.push ap23 ho rfl rfl (by unfold maxLen; omega) (by omega) fun r w4 F' ho' _ st' => ⟨F', ?_, hf.stp st'⟩
          rw [if_pos hc, show (0 : Int) + (i.toNat : Int) = i by omega]
          simpa [ci] using ho'
        · rw [if_neg (by simp [hc])]
          exact ⟨F, by simpa using ho, hf⟩
    · rintro c w3 ⟨F', h1, h2⟩
      rw [w64 (by omega) (by omega)]
      exact ⟨⟨by (try dsimp only); omega, by (try dsimp only); omega, F', by rw [show (i + 1).toNat = i.toNat + 1 by omega]; exact h1, h2⟩, by (try dsimp only); omega⟩
  · have hge : l.length ≤ i.toNat := by simp [hsl] at hi; omega
    rw [List.take_of_length_le hge] at ho
    exact ⟨F, ho, hf⟩

/-! ### order -/
open Classical in
noncomputable def orderP (some_ : List Int) (l : List Pl) : List Int := if RtP l then (idx 0 (marks some_ l.length)).reverse else []
theorem take_set_ge {α : Type} {l : List α} {n i : Nat} {v : α} (h : n ≤ i) : (l.set i v).take n = l.take n := by
  rw [List.take_set, List.set_eq_of_length_le (by rw [List.length_take]; omega)]

/-- the list turned round, up to the i-th from both ends -/
def half (l : List Int) (i : Nat) : List Int := (List.range l.length).map fun j => if j < i ∨ l.length - 1 - j < i then l.getD (l.length - 1 - j) 0 else l.getD j 0
theorem half_len (l : List Int) (i : Nat) : (half l i).length = l.length := by simp [half]
theorem half_get {l : List Int} {i j : Nat} (h : j < l.length) : (half l i)[j]? = some (if j < i ∨ l.length - 1 - j < i then l.getD (l.length - 1 - j) 0 else l.getD j 0) := by simp [half, h]
theorem half_zero (l : List Int) : half l 0 = l := by
  apply List.ext_getElem
  · simp [half]
  · intro j h1 h2
    simp [half, List.getD, h2]
theorem half_all {l : List Int} {i : Nat} (h : l.length ≤ 2 * i + 1) : half l i = l.reverse := by
  apply List.ext_getElem
  · simp [half]
  · intro j h1 h2
    have hj : j < l.length := by simpa [half] using h1
    simp only [half, List.getElem_map, List.getElem_range, List.getElem_reverse]
    have e1 : l.getD (l.length - 1 - j) 0 = l[l.length - 1 - j] := by simp [List.getD, List.getElem?_eq_getElem (show l.length - 1 - j < l.length by omega)]
    have e2 : l.getD j 0 = l[j] := by simp [List.getD, hj]
    split
    · exact e1
    · have : j = l.length - 1 - j := by omega
      rw [e2]
      congr 1
theorem half_step {l : List Int} {i : Nat} (h : 2 * i + 1 < l.length) : ((half l i).set i (l.getD (l.length - 1 - i) 0)).set (l.length - 1 - i) (l.getD i 0) = half l (i + 1) := by
  apply List.ext_getElem
  · simp [half]
  · intro j h1 h2
    have hj : j < l.length := by simpa [half] using h2
    simp only [List.getElem_set, half, List.getElem_map, List.getElem_range]
    by_cases e1 : l.length - 1 - i = j
    · subst e1
      have : l.length - 1 - (l.length - 1 - i) = i := by omega
      rw [if_pos rfl, if_pos (by omega), this]
    · rw [if_neg e1]
      by_cases e2 : i = j
      · subst e2
        rw [if_pos rfl, if_pos (by omega)]
      · rw [if_neg e2]
        by_cases e3 : j < i ∨ l.length - 1 - j < i
        · rw [if_pos e3, if_pos (by omega)]
        · rw [if_neg e3, if_neg (by omega)]

theorem reverse_c (w : World) (F : Nat → Prop) (s : Sl) (l : List Int) (h : OwnF w F 3 1 s (l.flatMap ci)) (hl : l.length ≤ 1000000) :
    callC Try.prog 24 #[s.v] (fun (_ : Unit) => .tuple #[]) w fun _ w' => OwnF w' F 3 1 s (l.reverse.flatMap ci) ∧ Stp F w F w' := by
  have hsl := (h.rd ci1 (by decide)).len
  refine D24 _ w _ ?_
  unfold F24
  refine ⟨fun (c : Int × Int) w' => 0 ≤ c.1 ∧ c.1 ≤ l.length ∧ c.2 = l.length - 1 - c.1 ∧ OwnF w' F 3 1 s ((half l c.1.toNat).flatMap ci) ∧ Stp F w F w', fun c _ => (l.length - c.1).toNat, ⟨by simp, by simp, ?_, by rw [show ((0 : Int), _).1.toNat = 0 from rfl, half_zero]; exact h, Stp.refl _ _⟩, ?_⟩
  · dsimp only
    rw [hsl, w64 (by omega) (by omega)]
    omega
  rintro ⟨i, j⟩ w1 ⟨i0, i1, hj, ho, hst⟩
  dsimp only at i0 i1 hj ho ⊢
  refine ⟨fun hc => ?_, fun hc => ?_⟩
  · have hlt : i < j := by simpa using hc
    have hjn : j.toNat = l.length - 1 - i.toNat := by omega
    have hlen := half_len l i.toNat
    have gj := half_get (l := l) (i := i.toNat) (j := j.toNat) (by omega)
    have gi := half_get (l := l) (i := i.toNat) (j := i.toNat) (by omega)
    rw [if_neg (by omega)] at gj gi
    rw [hjn] at gj
    refine jn.mk (fun _ w' => OwnF w' F 3 1 s ((half l (i.toNat + 1)).flatMap ci) ∧ Stp F w F w') ?_ ?_
    · show tk w1 _
      unfold tk
      have hoD := ho.keepQ (Only.drew (fun _ => False) w1)
      have stD : Stp F w F w1.drew := hst.trans (Stp.quiet (Only.drew _ _))
      refine (hoD.rd ci1 (by decide)).ix (by omega) (by omega) fun p a ha hat _ => hat.ld0 rfl ?_
      refine (hoD.rd ci1 (by decide)).ix i0 (by omega) fun p' b hb hat' _ => hat'.ld0 rfl ?_
      rw [hjn, gj] at ha
      rw [gi] at hb
      injection ha with ha
      injection hb with hb
      subst ha hb
      refine hoD.set0 (y := l.getD (l.length - 1 - i.toNat) 0) ci1 i0 gi rfl (by decide) fun w3 ho3 on3 _ => ?_
      have gj3 : ((half l i.toNat).set i.toNat (l.getD (l.length - 1 - i.toNat) 0))[j.toNat]? = some (l.getD (l.length - 1 - i.toNat) 0) := by
        rw [List.getElem?_set_ne (by omega), hjn]
        exact gj
      refine ho3.set0 (y := l.getD i.toNat 0) ci1 (by omega) gj3 rfl (by decide) fun w4 ho4 on4 _ => ?_
      rw [hjn, half_step (by omega)] at ho4
      exact ⟨ho4, (stD.trans ⟨on3, fun _ => .inl⟩).trans ⟨on4, fun _ => .inl⟩⟩
    · rintro _ w5 ⟨h1, h2⟩
      rw [w64 (x := i + 1) (by omega) (by omega), w64 (x := j - 1) (by omega) (by omega)]
      exact ⟨⟨by (try dsimp only); omega, by (try dsimp only); omega, by (try dsimp only); omega, by rw [show (i + 1, j - 1).1.toNat = i.toNat + 1 by (try dsimp only); omega]; exact h1, h2⟩, by (try dsimp only); omega⟩
  · have hge : ¬ i < j := by simpa using hc
    rw [half_all (by omega)] at ho
    exact ⟨ho, hst⟩
end Go.Proofs.Ytjmjackeeiglmaa
