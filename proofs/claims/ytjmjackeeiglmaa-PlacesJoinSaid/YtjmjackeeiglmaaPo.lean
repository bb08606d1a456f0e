import Derived.Test.YtjmjackeeiglmaaPn
namespace Go.Proofs.Ytjmjackeeiglmaa
open Go.Dec Go.RowKit
set_option maxHeartbeats 400000

theorem rright_c (w : World) (s : Sl) (l : List Pl) (h : RdP w s l) (hl : l.length ≤ 9223372036854775807) (hf : ∀ p ∈ l, p.frm.length ≤ 9223372036854775807) :
    callC Try.prog 11 #[s.v] (fun (r : Bool) => .bool r) w fun r w' => (r = true ↔ RtP l) ∧ Quiet w w' := by
  have hsl := h.len
  refine D11 _ w _ ?_
  unfold F11
  refine ⟨fun i w' => Upto l i w w', fun i _ => (l.length - i).toNat, ⟨by omega, by omega, fun j p hj => by omega, Only.refl _ _⟩, ?_⟩
  rintro i w1 ⟨i0, i1, hok, q1⟩
  refine ⟨fun hi => ?_, fun hi => ?_⟩
  · have hlt : i < l.length := by simpa [hsl] using hi
    refine (h.keepQ q1).ix i0 hlt fun p x fs hx hat hfs => hat.ld (j := 0) rfl (hat.ld (j := 1) rfl (hat.ld (j := 2) (x := fs) rfl ?_))
    refine slot3 fun b7 w3 hb q3 => hb.ld rfl ?_
    have q13 := q1.tr q3
    have bad : ¬ OkP i.toNat x → ((false = true ↔ RtP l) ∧ Quiet w w3) := fun hn => ⟨⟨fun e => (by cases e), fun e => absurd (e.ok _ _ hx) hn⟩, q13⟩
    refine jp.val (decide (x.kind < 0) || decide (8 ≤ x.kind)) ⟨fun hc => by simp [hc], fun hc => hb.ld rfl (by simp [hc])⟩ ?_
    refine jp.val ((decide (x.kind < 0) || decide (8 ≤ x.kind)) || decide (x.id < 0)) ⟨fun hc => by simp [hc], fun hc => hb.ld rfl (by simp [hc])⟩ ?_
    refine jp.val (((decide (x.kind < 0) || decide (8 ≤ x.kind)) || decide (x.id < 0)) || decide (1099511627776 < x.id)) ⟨fun hc => by simp [hc], fun hc => hb.ld rfl (by simp [hc])⟩ ?_
    refine ⟨fun hc => ?_, fun hc => ?_⟩
    · refine bad fun ⟨a, b, c, d, _⟩ => ?_
      simp at hc
      omega
    have hk : ((0 ≤ x.kind ∧ x.kind < 8) ∧ 0 ≤ x.id) ∧ x.id ≤ 1099511627776 := by simpa using hc
    have hfl := hfs.len
    have hxl := hf x (List.mem_of_getElem? hx)
    refine ⟨fun (c : Int × Int) w' => 0 ≤ c.2 ∧ c.2 ≤ x.frm.length ∧ c.1 = lastOf x.frm c.2.toNat ∧ (∀ (k : Nat) f, (k : Int) < c.2 → x.frm[k]? = some f → lastOf x.frm k < f ∧ f < i) ∧ w3 = w', fun c _ => (x.frm.length - c.2).toNat, ⟨by simp, by simp, by simp [lastOf], fun k f hk => by simp at hk; omega, rfl⟩, ?_⟩
    rintro ⟨last, k⟩ w4 ⟨k0, k1, hlast, hfok, rfl⟩
    dsimp only at k0 k1 hlast hfok ⊢
    refine hb.ld (x := fs) rfl ⟨fun hk' => ?_, fun hk' => ?_⟩
    · have hlt2 : k < x.frm.length := by simpa [hfl] using hk'
      obtain ⟨f, hf'⟩ := getq k0 hlt2
      have rd : ∀ {K : Addr → Prop}, (∀ p, AtC w3 p (ci f) → K p) → ix fs k 1 K := fun kk => (hfs.keepQ q3).ix k0 hlt2 fun p' g hg hat' _ => by
        rw [hf'] at hg
        injection hg with hg
        subst hg
        exact kk p' hat'
      refine hb.ld (x := fs) rfl (rd fun p' hat' => hat'.ld0 rfl ?_)
      refine jp.val (decide (f ≤ last) || decide (i ≤ f)) ⟨fun hc => by simp [hc], fun hc => hb.ld (x := fs) rfl (rd fun p' hat' => hat'.ld0 rfl (by simp [hc]))⟩ ?_
      refine ⟨fun hc => ?_, fun hc => hb.ld (x := fs) rfl (rd fun p' hat' => hat'.ld0 rfl ?_)⟩
      · refine bad fun hO => ?_
        have := hO.f _ _ hf'
        simp [hlast] at hc
        omega
      · have hc' : lastOf x.frm k.toNat < f ∧ f < i := by rw [hlast] at hc; simpa using hc
        rw [w64 (by omega) (by omega)]
        refine ⟨⟨by (try dsimp only); omega, by (try dsimp only); omega, ?_, fun j g hj hg => ?_, rfl⟩, by (try dsimp only); omega⟩
        · rw [show (k + 1).toNat = k.toNat + 1 by omega, lastOf_succ hf']
        · by_cases e : (j : Int) < k
          · exact hfok j g e hg
          · have : j = k.toNat := by omega
            subst this
            rw [hf'] at hg
            injection hg with hg
            subst hg
            exact hc'
    · have hk'' : ¬ k < x.frm.length := by simpa [hfl] using hk'
      rw [w64 (by omega) (by omega)]
      refine ⟨⟨by omega, by omega, fun j p hj hp => ?_, q13⟩, by (try dsimp only); omega⟩
      by_cases e : (j : Int) < i
      · exact hok j p e hp
      · have : j = i.toNat := by omega
        subst this
        rw [hx] at hp
        injection hp with hp
        subst hp
        refine ⟨hk.1.1.1, hk.1.1.2, hk.1.2, hk.2, fun k' f hf' => ?_⟩
        have hlt3 := (List.getElem?_eq_some_iff.1 hf').1
        have := hfok k' f (by omega) hf'
        omega
  · have hge : ¬ i < l.length := by simpa [hsl] using hi
    refine ⟨?_, q1⟩
    rw [hsl]
    constructor
    · intro e
      have : (l.length : Int) ≤ 100000 := by simpa using e
      exact ⟨fun j p hp => hok j p (by have := (List.getElem?_eq_some_iff.1 hp).1; omega) hp, by omega⟩
    · intro e
      have := e.len
      simp
      omega

theorem RdP.ixq {w w' : World} {s : Sl} {l : List Pl} {i : Int} {K : Addr → Prop} (h : RdP w s l) (q : Quiet w w') (h0 : 0 ≤ i) (h1 : i < l.length)
    (k : ∀ p x fs, l[i.toNat]? = some x → AtC w' p [.int .i64 x.kind, .int .i64 x.id, fs.v] → Rd w ci 1 fs x.frm → K p) : Go.Dec.ix s i 3 K := by
  have hx : l[i.toNat]? = some (l[i.toNat]'(by omega)) := List.getElem?_eq_getElem (by omega)
  obtain ⟨ad, fs, h2, h3, h4⟩ := h.2 _ _ hx
  exact ⟨⟨h0, by rw [h.1]; exact h1⟩, ad, h2, k _ _ fs hx (atq h3 q) h4⟩

/-! ### reach -/
def rule (roots : List Int) (acc : List Bool) (p : Pl) : Bool := decide ((acc.length : Int) ∈ roots) || p.frm.any fun f => acc.getD f.toNat false
def fl (roots : List Int) (l : List Pl) : List Bool := l.foldl (fun acc p => acc ++ [rule roots acc p]) []
theorem fl_snoc (roots : List Int) (l : List Pl) (p : Pl) : fl roots (l ++ [p]) = fl roots l ++ [rule roots (fl roots l) p] := by simp [fl]
theorem fl_len (roots : List Int) (l : List Pl) : (fl roots l).length = l.length := by
  have : ∀ (l : List Pl) (acc : List Bool), (l.foldl (fun acc p => acc ++ [rule roots acc p]) acc).length = acc.length + l.length := by
    intro l
    induction l with
    | nil => intro acc; rfl
    | cons p l ih => intro acc; rw [List.foldl_cons, ih]; simp; omega
  simpa [fl] using this l []
open Classical in
noncomputable def reachP (roots : List Int) (l : List Pl) : List Int := if RtP l then idx 0 (fl roots l) else []

structure Args (w : World) (s : Sl) (l : List Pl) (t : Sl) (some_ : List Int) : Prop where
  rl : RdP w s l
  rs : Rd w ci 1 t some_
  l1 : l.length ≤ 9223372036854775807
  f1 : ∀ p ∈ l, p.frm.length ≤ 1000000
  s1 : some_.length ≤ 1000000
theorem Args.keepQ {w w' : World} {s t : Sl} {l : List Pl} {some_ : List Int} (h : Args w s l t some_) (q : Quiet w w') : Args w' s l t some_ := ⟨h.rl.keepQ q, h.rs.keepQ q, h.l1, h.f1, h.s1⟩

theorem reach_c (w : World) (s t : Sl) (l : List Pl) (roots : List Int) (h : Args w s l t roots) :
    callC Try.prog 13 #[s.v, t.v] Sl.v w fun r w' => ∃ F, OwnF w' F 3 1 r ((reachP roots l).flatMap ci) ∧ Fresh w w' F := by
  obtain ⟨hP, hs, l1, f1, s1⟩ := h
  have hsl := hP.len
  refine D13 _ _ w _ ?_
  unfold F13
  refine (right_c w s l hP l1 fun p hp => by have := f1 p hp; omega).use ?_
  rintro r w1 ⟨hr, q1⟩
  refine ⟨fun hc => ?_, fun hc => ?_⟩
  · have : ¬ RtP l := fun e => by rw [hr.2 e] at hc; cases hc
    unfold reachP
    rw [if_neg this]
    exact ⟨_, OwnF.nil _ _ _ _, (Fresh.none w).keep q1⟩
  have hR : RtP l := hr.1 (by simpa using hc)
  have hll := hR.len
  unfold reachP
  rw [if_pos hR]
  refine (marked_c w1 s t roots (hs.keepQ q1) (by omega) s1).use ?_
  rintro r3 w2 ⟨F, ho2, hf2'⟩
  have hf2 : Fresh w w2 F := ⟨q1.tr hf2'.q, fun b hb => ⟨Nat.le_trans q1.size (hf2'.b b hb).1, (hf2'.b b hb).2⟩⟩
  rw [hsl] at ho2
  refine ⟨fun i w' => 0 ≤ i ∧ i ≤ l.length ∧ OwnF w' F 4 1 r3 ((fl roots (l.take i.toNat) ++ (marks roots l.length).drop i.toNat).flatMap cb) ∧ Fresh w w' F, fun i _ => (l.length - i).toNat, ⟨by omega, by omega, by simpa [fl] using ho2, hf2⟩, ?_⟩
  rintro i w3 ⟨i0, i1, ho, hf⟩
  refine ⟨fun hi => ?_, fun hi => ?_⟩
  · have hlt : i < l.length := by simpa [hsl] using hi
    refine hP.ixq hf.q i0 hlt fun p x fs hx hat hfs => hat.ld (j := 0) rfl (hat.ld (j := 1) rfl (hat.ld (j := 2) (x := fs) rfl ?_))
    refine slot3 fun b10 w5 hb q5 => hb.ld (x := fs) rfl ?_
    have hfl := hfs.len
    have hO := hR.ok _ _ hx
    have hxl := f1 x (List.mem_of_getElem? hx)
    have hflen : (fl roots (l.take i.toNat)).length = i.toNat := by rw [fl_len, List.length_take]; omega
    have hmd : (marks roots l.length).drop i.toNat = decide (((i.toNat : Nat) : Int) ∈ roots) :: (marks roots l.length).drop (i.toNat + 1) := by
      rw [List.drop_eq_getElem_cons (by rw [marks_len]; omega)]
      congr 1
      simp [marks]
    -- the list while the i-th is reckoned
    have gi : ∀ v : Bool, (fl roots (l.take i.toNat) ++ v :: (marks roots l.length).drop (i.toNat + 1))[i.toNat]? = some v := fun v => by
      rw [List.getElem?_append_right (by omega), hflen]
      simp
    have gf : ∀ (v : Bool) (f : Int), 0 ≤ f → f < i → (fl roots (l.take i.toNat) ++ v :: (marks roots l.length).drop (i.toNat + 1))[f.toNat]? = some ((fl roots (l.take i.toNat)).getD f.toNat false) := fun v f f0 f1' => by
      rw [List.getElem?_append_left (by omega), List.getD_eq_getElem?_getD, List.getElem?_eq_getElem (by omega)]
      rfl
    have si : ∀ v u : Bool, (fl roots (l.take i.toNat) ++ v :: (marks roots l.length).drop (i.toNat + 1)).set i.toNat u = fl roots (l.take i.toNat) ++ u :: (marks roots l.length).drop (i.toNat + 1) := fun v u => by
      rw [List.set_append_right _ _ (by omega), hflen]
      simp
    have ln : ∀ v : Bool, (fl roots (l.take i.toNat) ++ v :: (marks roots l.length).drop (i.toNat + 1)).length = l.length := fun v => by
      simp [hflen, marks_len]; omega
    rw [hmd] at ho
    refine ⟨fun k w' => 0 ≤ k ∧ k ≤ x.frm.length ∧ OwnF w' F 4 1 r3 ((fl roots (l.take i.toNat) ++ (decide (((i.toNat : Nat) : Int) ∈ roots) || (x.frm.take k.toNat).any fun f => (fl roots (l.take i.toNat)).getD f.toNat false) :: (marks roots l.length).drop (i.toNat + 1)).flatMap cb) ∧ Fresh w w' F, fun k _ => (x.frm.length - k).toNat, ⟨by omega, by omega, by simpa using ho.keepQ q5, hf.keep q5⟩, ?_⟩
    rintro k w6 ⟨k0, k1, ho6, hf6⟩
    refine ⟨fun hk => ?_, fun hk => ?_⟩
    · have hlt2 : k < x.frm.length := by simpa [hfl] using hk
      obtain ⟨f, hf'⟩ := getq k0 hlt2
      obtain ⟨f0, f1'⟩ := hO.mem (List.mem_of_getElem? hf')
      have hf1i : f < i := by omega
      refine (hfs.keepQ hf6.q).ix k0 hlt2 fun p' g hg hat' _ => hat'.ld0 rfl ?_
      rw [hf'] at hg
      injection hg with hg
      subst hg
      have hi3 : (i : Int) < ((fl roots (l.take i.toNat) ++ (decide (((i.toNat : Nat) : Int) ∈ roots) || (x.frm.take k.toNat).any fun f => (fl roots (l.take i.toNat)).getD f.toNat false) :: (marks roots l.length).drop (i.toNat + 1)).length : Int) := by rw [ln]; exact hlt
      refine (ho6.rd cb1 (by decide)).ix i0 hi3 fun p1 v1 hv1 hat1 _ => hat1.ld0 rfl ?_
      rw [gi] at hv1
      injection hv1 with hv1
      subst hv1
      refine jp.val ((decide (((i.toNat : Nat) : Int) ∈ roots) || (x.frm.take k.toNat).any fun f => (fl roots (l.take i.toNat)).getD f.toNat false) || (fl roots (l.take i.toNat)).getD f.toNat false) ⟨fun hc => by rw [hc]; rfl, fun hc => ?_⟩ ?_
      · refine (ho6.rd cb1 (by decide)).ix f0 (by omega) fun p2 v2 hv2 hat2 _ => hat2.ld0 rfl ?_
        rw [gf _ _ f0 hf1i] at hv2
        injection hv2 with hv2
        rw [hc, hv2]
        rfl
      · refine ho6.set0 (y := (decide (((i.toNat : Nat) : Int) ∈ roots) || (x.frm.take k.toNat).any fun f => (fl roots (l.take i.toNat)).getD f.toNat false) || (fl roots (l.take i.toNat)).getD f.toNat false) cb1 i0 (gi _) rfl (by decide) fun w7 ho7 on7 _ => ?_
        rw [si] at ho7
        rw [w64 (by omega) (by omega)]
        refine ⟨⟨by omega, by omega, ?_, hf6.only on7⟩, by (try dsimp only); omega⟩
        rw [show (k + 1).toNat = k.toNat + 1 by omega, take_next hf', List.any_append]
        simpa [Bool.or_assoc] using ho7
    · have hge : x.frm.length ≤ k.toNat := by simp [hfl] at hk; omega
      rw [List.take_of_length_le hge] at ho6
      rw [w64 (by omega) (by omega)]
      refine ⟨⟨by omega, by omega, ?_, hf6⟩, by (try dsimp only); omega⟩
      rw [show (i + 1).toNat = i.toNat + 1 by omega, take_next hx, fl_snoc, List.append_assoc]
      unfold rule
      rw [hflen]
      exact ho6
  · have hge : l.length ≤ i.toNat := by simp [hsl] at hi; omega
    rw [List.take_of_length_le hge, List.drop_of_length_le (by rw [marks_len]; exact hge), List.append_nil] at ho
    refine (indices_c w3 r3 (fl roots l) (ho.rd cb1 (by decide)) (by rw [fl_len]; omega)).use ?_
    rintro r w8 ⟨F', ho', hf'⟩
    exact ⟨F', ho', hf.q.tr hf'.q, fun b hb => ⟨Nat.le_trans hf.q.size (hf'.b b hb).1, (hf'.b b hb).2⟩⟩
end Go.Proofs.Ytjmjackeeiglmaa
