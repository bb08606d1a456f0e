import Derived.Test.YthnebjgmhdilbaaEv
namespace Go.Proofs.Ythnebjgmhdilbaa
open Go.Dec Go.RowKit
set_option maxHeartbeats 400000

def kn (a : Int) (n : Nat) : List Cp := (List.range n).map fun i : Nat => noteP (a + 12 * (i : Int)) i (-1)
def co (b m : Int) (n : Nat) : List Cp := (List.range n).map fun i : Nat => noteP (b + 12 * ((i : Int).tmod 3)) (m + i) (-1)
theorem kn_len (a : Int) (n : Nat) : (kn a n).length = n := by simp [kn]
theorem co_len (b m : Int) (n : Nat) : (co b m n).length = n := by simp [co]
theorem kn_succ (a : Int) (n : Nat) : kn a (n + 1) = kn a n ++ [noteP (a + 12 * (n : Int)) n (-1)] := by simp [kn, List.range_succ]
theorem co_succ (b m : Int) (n : Nat) : co b m (n + 1) = co b m n ++ [noteP (b + 12 * ((n : Int).tmod 3)) (m + n) (-1)] := by simp [co, List.range_succ]
theorem kn_at (a : Int) {n i : Nat} (h : i < n) : (kn a n)[i]? = some (noteP (a + 12 * (i : Int)) i (-1)) := by simp [kn, h]
theorem co_at (b m : Int) {n i : Nat} (h : i < n) : (co b m n)[i]? = some (noteP (b + 12 * ((i : Int).tmod 3)) (m + i) (-1)) := by simp [co, h]
theorem net12 {a k : Int} (h0 : 0 ≤ a) (h1 : a < 12) (h2 : 0 ≤ k) (h3 : k ≤ 20) : netP (a + 12 * k) = a := by
  unfold netP
  rw [if_neg (by omega), Int.tmod_eq_emod_of_nonneg (by omega)]
  omega
theorem tm3 (i : Nat) : 0 ≤ (i : Int).tmod 3 ∧ (i : Int).tmod 3 ≤ 20 := by
  rw [Int.tmod_eq_emod_of_nonneg (by omega)]
  omega
def doneL (b : Int) (N j : Nat) : Done := (List.range j).map fun i : Nat => ((N : Int) - 1 - (i : Int), b)
theorem doneL_succ (b : Int) (N j : Nat) : doneL b N (j + 1) = doneL b N j ++ [((N : Int) - 1 - (j : Int), b)] := by simp [doneL, List.range_succ]
theorem usedL (b : Int) (N j : Nat) (k : Int) : usedD (doneL b N j) b k = decide ((N : Int) - j ≤ k ∧ k < N) := by
  unfold usedD doneL
  rw [decide_eq_decide, List.mem_map]
  constructor
  · rintro ⟨i, hi, e⟩
    have := List.mem_range.1 hi
    have e1 : (N : Int) - 1 - i = k := congrArg Prod.fst e
    omega
  · intro h
    refine ⟨(N - 1 - k).toNat, List.mem_range.2 (by omega), ?_⟩
    rw [show (((N : Int) - 1 - k).toNat : Int) = N - 1 - k by omega]
    congr 1
    omega
theorem all_step {a b far : Int} {N j : Nat} (ha : 0 ≤ a ∧ a < 12) (hb : 0 ≤ b ∧ b < 12) (hab : a ≠ b) (hf : 0 ≤ far) (hN : N ≤ 20) (hj : j < N) :
    stepD (kn a N) (2 * N + far) (doneL b N j) (noteP (b + 12 * ((j : Int).tmod 3)) (N + far + j) (-1)) = ((N : Int) - 1 - (j : Int), b) := by
  have hm := tm3 j
  have hn : netP (noteP (b + 12 * ((j : Int).tmod 3)) (N + far + j) (-1)).acc = b := net12 hb.1 hb.2 hm.1 hm.2
  have ok : ∀ t, t < N → okP (kn a N) (noteP (b + 12 * ((j : Int).tmod 3)) (N + far + j) (-1)) (2 * N + far) (usedD (doneL b N j) b) t = !decide ((N : Int) - j ≤ t ∧ (t : Int) < N) := fun t ht => by
    unfold okP
    rw [kn_at a ht]
    dsimp only
    rw [usedL]
    have : may (noteP (a + 12 * (t : Int)) t (-1)) (noteP (b + 12 * ((j : Int).tmod 3)) (N + far + j) (-1)) (2 * N + far) := by
      refine ⟨by omega, ⟨rfl, rfl, rfl⟩, ?_, ?_, ?_⟩
      · rw [hn]
        show netP (a + 12 * (t : Int)) ≠ b
        rw [net12 ha.1 ha.2 (by omega) (by omega)]
        exact hab
      · show (t : Int) ≤ N + far + j
        omega
      · show (N : Int) + far + j - t ≤ 2 * N + far
        omega
    simp [this]
  unfold stepD
  rw [hn]
  congr 1
  unfold lastOf
  rw [kn_len, lastP_is (i := N - 1 - j) (by omega) (by rw [ok _ (by omega)]; simp; omega) fun t h1 h2 => by rw [ok t h2]; simp; omega]
  omega
theorem all_pairs {a b far : Int} {N : Nat} (ha : 0 ≤ a ∧ a < 12) (hb : 0 ≤ b ∧ b < 12) (hab : a ≠ b) (hf : 0 ≤ far) (hN : N ≤ 20) : ∀ j, j ≤ N → pairsD (kn a N) (2 * N + far) (co b (N + far) j) = doneL b N j
  | 0, _ => rfl
  | j + 1, h => by
    rw [co_succ, pairsD_snoc, all_pairs ha hb hab hf hN j (by omega), all_step ha hb hab hf hN h, doneL_succ]
theorem none_pairs {a : Int} {N : Nat} (ha : 0 ≤ a ∧ a < 12) (hN : N ≤ 20) (near : Int) {i : Nat} {x : Int} (h : (pairsP (kn a N) near (kn a N))[i]? = some x) : x = -1 := by
  unfold pairsP at h
  rw [List.getElem?_map, Option.map_eq_some_iff] at h
  obtain ⟨d, hd, rfl⟩ := h
  have hi : i < N := by
    have := (List.getElem?_eq_some_iff.1 hd).1
    rwa [pairsD_len, kn_len] at this
  rw [pairs_at _ near (kn_at a hi)] at hd
  injection hd with hd
  subst hd
  show lastOf _ _ _ _ = -1
  unfold lastOf
  refine lastP_no fun t ht => ?_
  rw [kn_len] at ht
  unfold okP
  rw [kn_at a ht]
  have : ¬ may (noteP (a + 12 * (t : Int)) t (-1)) (noteP (a + 12 * (i : Int)) i (-1)) near := fun m => by
    refine m.2.2.1 ?_
    show netP (a + 12 * (t : Int)) = netP (a + 12 * (i : Int))
    rw [net12 ha.1 ha.2 (by omega) (by omega), net12 ha.1 ha.2 (by omega) (by omega)]
  simp [this]

def bi (b : Bool) : List Value := [.bool b]
theorem bi1 (b : Bool) : (bi b).length = 1 := rfl
theorem ap38 : appOK Try.prog 38 4 1 1 = true := by kernel_rfl
theorem z4 : (Try.prog.info? 4).bind (·.zero) = some (Value.bool false) := by kernel_rfl
def seenL (N i : Nat) : List Bool := (List.range N).map fun k => decide (N - i ≤ k)
theorem seen_step {N i : Nat} (h : i < N) : (seenL N i).set (N - 1 - i) true = seenL N (i + 1) := by
  apply List.ext_getElem
  · simp [seenL]
  · intro k h1 h2
    have hk : k < N := by simpa [seenL] using h2
    simp only [seenL, List.getElem_set, List.getElem_map, List.getElem_range]
    by_cases e : N - 1 - i = k
    · rw [if_pos e]
      exact (decide_eq_true (by omega)).symm
    · rw [if_neg e, decide_eq_decide]
      omega
theorem seen_at {N i : Nat} (h : i < N) : (seenL N i)[N - 1 - i]? = some false := by
  have : N - 1 - i < N := by omega
  simp [seenL, this]
  omega
theorem seen_0 (N : Nat) : List.replicate N false = seenL N 0 := by
  apply List.ext_getElem
  · simp [seenL]
  · intro k h1 h2
    have hk : k < N := by simpa [seenL] using h2
    simp [seenL, hk]

theorem allL_c (w : World) (p0 p1 p2 far : Int) (h0 : 0 ≤ p0) (h1 : 0 ≤ p1) (h2 : 0 ≤ p2) (g0 : p0 ≤ 255) (g1 : p1 ≤ 255) (g2 : p2 ≤ 255) (hf0 : 0 ≤ far) (hf : far ≤ 65535) :
    callC Try.prog 6 #[.int .u8 p0, .int .u8 p1, .int .u8 p2, .int .u16 far] (fun (r : Bool) => .bool r) w fun r w' => r = true ∧ Quiet w w' := by
  refine D6 _ _ _ _ w _ ?_
  unfold F6
  obtain ⟨N, eN, hN⟩ : ∃ N : Nat, p0.tmod 21 = N ∧ N ≤ 20 := ⟨(p0.tmod 21).toNat, by rw [Int.tmod_eq_emod_of_nonneg (by omega)]; omega, by rw [Int.tmod_eq_emod_of_nonneg (by omega)]; omega⟩
  obtain ⟨a, ea, ha⟩ : ∃ a : Int, p1.tmod 12 = a ∧ (0 ≤ a ∧ a < 12) := ⟨p1.tmod 12, rfl, by rw [Int.tmod_eq_emod_of_nonneg (by omega)]; omega⟩
  obtain ⟨d, ed, hd⟩ : ∃ d : Int, p2.tmod 11 = d ∧ (0 ≤ d ∧ d < 11) := ⟨p2.tmod 11, rfl, by rw [Int.tmod_eq_emod_of_nonneg (by omega)]; omega⟩
  obtain ⟨b, eb, hb, hab⟩ : ∃ b : Int, (a + 1 + d).tmod 12 = b ∧ (0 ≤ b ∧ b < 12) ∧ a ≠ b := ⟨_, rfl, by rw [Int.tmod_eq_emod_of_nonneg (by omega)]; omega, by rw [Int.tmod_eq_emod_of_nonneg (by omega)]; omega⟩
  rw [eN, w64 (x := (N : Int)) (by omega) (by omega), w64 (x := p1) (by omega) (by omega), w64 (x := p2) (by omega) (by omega), w64 (x := far) (by omega) (by omega), ea, ed, w64 (x := a + 1) (by omega) (by omega), w64 (x := a + 1 + d) (by omega) (by omega), eb,
    w64 (x := (N : Int) + far) (by omega) (by omega), w64 (x := 2 * (N : Int)) (by omega) (by omega), w64 (x := 2 * (N : Int) + far) (by omega) (by omega)]
  refine (small_c w).use ?_
  rintro r1 w1 ⟨rfl, q1⟩
  refine ⟨fun (x : Sl × Sl × Int) w' => 0 ≤ x.2.2 ∧ x.2.2 ≤ N ∧ ∃ F G, OwnF w' F 30 5 x.1 ((kn a x.2.2.toNat).flatMap cp) ∧ OwnF w' G 30 5 x.2.1 ((co b (N + far) x.2.2.toNat).flatMap cp) ∧ Objs w1 w' (two F G), fun x _ => (N - x.2.2).toNat,
    ⟨by simp, by simp, _, _, OwnF.nil _ _ _ _, OwnF.nil _ _ _ _, (Objs.start w1).none2⟩, ?_⟩
  rintro ⟨sk, sc, i⟩ w2 ⟨i0, i1, F, G, hF, hG, hO⟩
  dsimp only at i0 i1 hF hG ⊢
  have hFr := hF.rd cp5 (by decide)
  have hGr := hG.rd cp5 (by decide)
  have hFl := hFr.len
  have hGl := hGr.len
  rw [kn_len] at hFl
  rw [co_len] at hGl
  refine ⟨fun hi => ?_, fun hi => ?_⟩
  · have hlt : i < N := of_decide_eq_true hi
    have hm3 := tm3 i.toNat
    rw [show ((i.toNat : Nat) : Int) = i by omega] at hm3
    rw [w64 (x := 12 * i) (by omega) (by omega), w64 (x := a + 12 * i) (by omega) (by omega), w64 (x := 12 * i.tmod 3) (by omega) (by omega), w64 (x := b + 12 * i.tmod 3) (by omega) (by omega), w64 (x := (N : Int) + far + i) (by omega) (by omega), w64 (x := i + 1) (by omega) (by omega)]
    refine (note_c w2 _ _ _).use ?_
    rintro r4 w3 ⟨rfl, q3⟩
    refine OwnF.push (news := cp (noteP (a + 12 * i) i (-1))) ap22 (hF.keepQ q3) rfl rfl (by unfold maxLen; omega) (by omega) fun r w5 F' hF' _ st5 => ?_
    have hO5 := (hO.quiet q3).s0 st5
    have hG5 := (hG.keepQ q3).keep st5.only (hO.quiet q3).d10
    refine (note_c w5 _ _ _).use ?_
    rintro r7 w6 ⟨rfl, q6⟩
    refine OwnF.push (news := cp (noteP (b + 12 * i.tmod 3) (N + far + i) (-1))) ap22 (hG5.keepQ q6) rfl rfl (by unfold maxLen; omega) (by omega) fun r' w8 G' hG' _ st8 => ?_
    have hO8 := (hO5.quiet q6).s1 st8
    have hF8 := (hF'.keepQ q6).keep st8.only (hO5.quiet q6).d01
    refine ⟨⟨by (try dsimp only); omega, by (try dsimp only); omega, F', G', ?_, ?_, hO8⟩, by (try dsimp only); omega⟩
    · show OwnF w8 F' 30 5 r ((kn a (i + 1).toNat).flatMap cp)
      rw [toNat_succ i0, kn_succ, show ((i.toNat : Nat) : Int) = i by omega]
      simpa using hF8
    · show OwnF w8 G' 30 5 r' ((co b (N + far) (i + 1).toNat).flatMap cp)
      rw [toNat_succ i0, co_succ, show ((i.toNat : Nat) : Int) = i by omega]
      simpa using hG'
  have hiN : i.toNat = N := by
    have := of_decide_eq_false hi
    omega
  rw [hiN] at hFr hGr
  have q2 : Quiet w1 w2 := Quiet.ofBelow hO.bl
  have kok : ∀ x ∈ kn a N, i64 x.step := fun x hx => by
    obtain ⟨k, hk, rfl⟩ := List.mem_map.1 hx
    have := List.mem_range.1 hk
    show i64 (k : Int)
    unfold i64
    omega
  have cok : ∀ x ∈ co b (N + far) N, i64 x.step := fun x hx => by
    obtain ⟨k, hk, rfl⟩ := List.mem_map.1 hx
    have := List.mem_range.1 hk
    show i64 ((N : Int) + far + k)
    unfold i64
    omega
  refine (pairs_c w2 sk sc _ _ _ hFr hGr (by rw [kn_len]; omega) (by rw [co_len]; omega) kok cok (by omega)).use ?_
  rintro r10 w9 ⟨F10, o10, f10⟩
  have hr := o10.rd ci1 (by decide)
  have hrl := hr.len
  rw [pairsP_len, co_len] at hrl
  refine ⟨fun g => by rw [hrl] at g; simp at g, fun _ => ?_⟩
  have hPD : pairsP (kn a N) (2 * N + far) (co b (N + far) N) = (doneL b N N).map Prod.fst := by
    unfold pairsP
    rw [all_pairs ha hb hab hf0 hN N (Nat.le_refl N)]
  rw [hPD] at hr
  refine rn_make1 ap38 z4 rfl (by unfold maxLen; omega) (by omega) fun r12 w10 F12 o12 e12 f12 => ?_
  rw [flat_rep (c := bi) (x := false) rfl, seen_0] at o12
  have q29 := f10.q
  refine ⟨fun i w' => 0 ≤ i ∧ i ≤ N ∧ OwnF w' F12 4 1 r12 ((seenL N i.toNat).flatMap bi) ∧ Fresh w9 w' F12, fun i _ => (N - i).toNat, ⟨by omega, by omega, o12, f12⟩, ?_⟩
  rintro j w11 ⟨j0, j1, ho, hf'⟩
  have hrj := hr.keepQ hf'.q
  refine ⟨fun hj => ?_, fun hj => ?_⟩
  · have hjN : j < N := of_decide_eq_true hj
    have hat : ((doneL b N N).map Prod.fst)[j.toNat]? = some ((N : Int) - 1 - j) := by
      have : j.toNat < N := by omega
      simp [doneL, this]
      omega
    have hsb := ho.rd bi1 (by decide)
    have hsat : (seenL N j.toNat)[((N : Int) - 1 - j).toNat]? = some false := by
      rw [show ((N : Int) - 1 - j).toNat = N - 1 - j.toNat by omega]
      exact seen_at (by omega)
    refine hrj.ixx j0 hat fun p hp _ => hp.ld0 rfl (jp.val false ⟨fun g => ?_, fun _ => hrj.ixx j0 hat fun p hp _ => hp.ld0 rfl ?_⟩ ⟨fun g => (by cases g), fun _ => ?_⟩)
    · exact absurd (of_decide_eq_true g) (by omega)
    · exact decide_eq_false (by omega)
    refine hrj.ixx j0 hat fun p hp _ => hp.ld0 rfl (hsb.ixx (by omega) hsat fun p hp _ => hp.ld0 rfl ⟨fun g => (by cases g), fun _ => ?_⟩)
    refine hrj.ixx j0 hat fun p hp _ => hp.ld0 rfl (ho.set0 (y := true) bi1 (by omega) hsat rfl (by decide) fun w12 o12 on12 _ => ?_)
    rw [w64 (by omega) (by omega)]
    refine ⟨⟨by omega, by omega, ?_, hf'.only on12⟩, by (try dsimp only); omega⟩
    rw [toNat_succ j0, ← seen_step (by omega), show N - 1 - j.toNat = ((N : Int) - 1 - j).toNat by omega]
    exact o12
  · have q211 := q29.tr hf'.q
    refine (pairs_c w11 sk sk _ _ _ (hFr.keepQ q211) (hFr.keepQ q211) (by rw [kn_len]; omega) (by rw [kn_len]; omega) kok kok (by omega)).use ?_
    rintro r32 w13 ⟨F32, o32, f32⟩
    have hr2 := o32.rd ci1 (by decide)
    have hr2l := hr2.len
    rw [pairsP_len, kn_len] at hr2l
    have q013 := q1.tr (q2.tr (q211.tr f32.q))
    refine ⟨fun i w' => 0 ≤ i ∧ i ≤ N ∧ w13 = w', fun i _ => (N - i).toNat, ⟨by omega, by omega, rfl⟩, ?_⟩
    rintro k w14 ⟨k0, k1, rfl⟩
    refine ⟨fun hk => ?_, fun hk => ⟨by rw [hr2l]; simp, q013⟩⟩
    have hkN : k < N := by rw [hr2l] at hk; exact of_decide_eq_true hk
    obtain ⟨x, hx⟩ := getq (l := pairsP (kn a N) N (kn a N)) k0 (by rw [pairsP_len, kn_len]; exact hkN)
    have e := none_pairs ha hN N hx
    refine hr2.ixx k0 hx fun p hp _ => hp.ld0 rfl ⟨fun g => ?_, fun _ => ?_⟩
    · rw [e] at g
      simp at g
    · rw [w64 (by omega) (by omega)]
      exact ⟨⟨by omega, by omega, rfl⟩, by (try dsimp only); omega⟩
theorem all (W : World) (a : Int) (h1 : 0 ≤ a) (g1 : a ≤ 255) (b : Int) (h2 : 0 ≤ b) (g2 : b ≤ 255) (c : Int) (h3 : 0 ≤ c) (g3 : c ≤ 255) (far : Int) (h4 : 0 ≤ far) (g4 : far ≤ 65535) :
    callC Try.prog 6 #[.int .u8 a, .int .u8 b, .int .u8 c, .int .u16 far] (fun (r : Bool) => .bool r) W fun r w' => r = true ∧ Below W.heap.size W w' :=
  (allL_c W a b c far h1 h2 h3 g1 g2 g3 h4 g4).use fun _ _ h => ⟨h.1, bq h.2⟩
end Go.Proofs.Ythnebjgmhdilbaa
