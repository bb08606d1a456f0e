import Derived.Test.YtgbhghoppjfofaaGreatTd
import Derived.Test.YtgbhghoppjfofaaGreatTg
namespace Go.Proofs.YtgbhghoppjfofaaGreat
open Go.Dec Go.RowKit Go.Top
set_option maxHeartbeats 1000000
set_option maxRecDepth 10000

def br (x : Br) : List Value := [.int .i64 x.src, .int .i64 x.dst, .bool x.own]
theorem br_len (x : Br) : (br x).length = 3 := rfl
theorem br_one (x : Br) : (br x).all Value.oneCell' = true := rfl
def brv (x : Br) : Value := .agg #[.int .i64 x.src, .int .i64 x.dst, .bool x.own]
def brt (x : Br) : Int × Int × Bool := (x.src, x.dst, x.own)
theorem br_ld {w : World} {p : Addr} {x : Br} {K : Int → Int → Bool → Prop} (h : AtC w p (br x)) (k : K x.src x.dst x.own) :
    ld (Value.int .i64) (p.add 0) w fun x0 => ld (Value.int .i64) (p.add 1) w fun x1 => ld Value.bool (p.add 2) w fun x2 => K x0 x1 x2 :=
  h.ld (j := 0) rfl (h.ld (j := 1) rfl (h.ld (j := 2) rfl k))
def IsBr (w : World) (b : Nat) (x : Br) : Prop := Blk w b 56 (br x).toArray
theorem IsBr.at {w : World} {b : Nat} {x : Br} (h : IsBr w b x) : AtC w (Addr.mk b 0 none) (br x) := fun j u hu => by
  unfold IsBr at h
  rw [mk_add, h.cell]
  simpa using hu
theorem IsBr.keepQ {w w' : World} {b : Nat} {x : Br} (h : IsBr w b x) (q : Quiet w w') : IsBr w' b x := Blk.keepQ h q
theorem br_box {z0 z1 z2 : Value} {w : World} {x : Br} {K : Nat → World → Prop} (k : ∀ b w', IsBr w' b x → Quiet w w' → w.heap.size ≤ b → b < w'.heap.size → K b w') :
    nw 56 #[z0, z1, z2] w fun b w1 => st (Addr.mk b 0 none) [.int .i64 x.src, .int .i64 x.dst, .bool x.own] w1 fun w2 => K b w2 :=
  box_all rfl k
def okBr (x : Br) : Prop := i64 x.src ∧ i64 x.dst ∧ True
def br_cells (w : World) (p : Addr) (x : Br) : Prop := w.cell? (p.add 0) = some (.int .i64 x.src) ∧ w.cell? (p.add 1) = some (.int .i64 x.dst) ∧ w.cell? (p.add 2) = some (.bool x.own)
theorem br_cj {w : World} {p : Addr} {x : Br} (h : AtC w p (br x)) : br_cells w p x := ⟨h.cj (j := 0) rfl, h.cj (j := 1) rfl, h.cj (j := 2) rfl⟩
theorem br_row {w : World} {b n : Nat} {cs : Array Value} {l : List Br} (h : Blk w b 56 cs) (hn : n = l.length) (hc : cs = (l.flatMap br).toArray) : Rd w br 3 (⟨some ⟨b, 0, none⟩, n, n⟩ : Sl) l := by
  subst hc
  refine ⟨hn, fun i u hu => ⟨_, rfl, fun j v hv => ?_⟩⟩
  rw [mk_add, mk_add, h.cell]
  simpa using flat_at br_len hu hv
def casts (o : List Nat) : List Int := o.map fun i : Nat => (i : Int)
theorem casts_at {o : List Nat} {j : Nat} {i : Nat} (h : o[j]? = some i) : (casts o)[j]? = some (i : Int) := by
  unfold casts
  rw [List.getElem?_map, h]
  rfl
theorem casts_len (o : List Nat) : (casts o).length = o.length := by simp [casts]
theorem casts_add (o : List Nat) (i : Nat) : (casts (o ++ [i])).flatMap ci = (casts o).flatMap ci ++ ci (i : Int) := by simp [casts]
structure VB (bs : List Br) (nets : Int) : Prop where
  num : 1 ≤ nets ∧ nets ≤ 12
  len : bs.length ≤ 200
  rng : ∀ b ∈ bs, (0 ≤ b.src ∧ b.src < nets) ∧ (0 ≤ b.dst ∧ b.dst < nets)
theorem indexB_c (w : World) (s : Sl) (l : List Br) (f : Value) (h : Rd w br 3 s l) (hl : l.length ≤ 1000000)
    (hf : ∀ (w' : World) (x : Br) (K : Bool → World → Prop), Quiet w w' → x ∈ l → (∀ w'', Quiet w' w'' → K false w'') → cv Tryz.prog f [brv x] (fun (r : Bool) => .bool r) w' K) :
    callC Tryz.prog 79 #[s.v, f] (fun (r : Int) => .int .i64 r) w fun r w' => r = -1 ∧ Quiet w w' := by
  have hsl := h.len
  refine D79 _ _ w _ ?_
  unfold F79
  refine ⟨fun i w' => 0 ≤ i ∧ i ≤ l.length ∧ Quiet w w', fun i _ => (l.length - i).toNat, ⟨by omega, by omega, Only.refl _ _⟩, ?_⟩
  rintro i w1 ⟨i0, i1, q1⟩
  refine ⟨fun hi => ?_, fun hi => ⟨rfl, q1⟩⟩
  have hlt : i < l.length := by rw [hsl] at hi; exact of_decide_eq_true hi
  obtain ⟨x, hx⟩ := getq i0 hlt
  refine (h.keepQ q1).ixx i0 hx fun p hat _ => br_ld hat (hf w1 x _ q1 (List.mem_of_getElem? hx) fun w2 q2 => ⟨fun hc => (by cases hc), fun hc => ?_⟩)
  rw [w64 (by omega) (by omega)]
  exact ⟨⟨by omega, by omega, q1.tr q2⟩, by (try dsimp only); omega⟩
theorem bvalid1_c (w : World) (x : Br) (b1 : Nat) (nets : Int) (h1 : Blk w b1 3 #[.int .i64 nets]) (hx : (0 ≤ x.src ∧ x.src < nets) ∧ (0 ≤ x.dst ∧ x.dst < nets)) :
    callC Tryz.prog 59 #[brv x, .pointer (some ⟨b1, 0, none⟩)] (fun (r : Bool) => .bool r) w fun r w' => r = false ∧ Quiet w w' := by
  refine D59 _ _ _ _ w _ ?_
  unfold F59
  refine nwL fun b w1 hb q _ _ _ => ?_
  have A : AtC w1 (Addr.mk b 0 none) (br x) := IsBr.at hb
  refine A.ld (j := 0) rfl (A.ld (j := 1) rfl (jp_or (v := decide (nets ≤ max x.src x.dst)) (fun _ J hJ => A.ld (j := 0) rfl (A.ld (j := 1) rfl ((h1.keepQ q).ld0 rfl hJ))) ⟨?_, q⟩))
  rw [decide_eq_false (show ¬ min x.src x.dst < 0 by omega), decide_eq_false (show ¬ nets ≤ max x.src x.dst by omega)]
  rfl
theorem bvalid_c (w : World) (s : Sl) (bs : List Br) (nets : Int) (h : Rd w br 3 s bs) (hv : VB bs nets) : callC Tryz.prog 33 #[s.v, .int .i64 nets] (fun (r : Bool) => .bool r) w fun r w' => r = true ∧ Quiet w w' := by
  obtain ⟨⟨n1, n2⟩, hl, hr⟩ := hv
  have hsl := h.len
  refine D33 _ _ w _ ?_
  unfold F33
  refine nwL fun b1 w1 hb1 q1 _ _ _ => ?_
  refine hb1.ld0 rfl (jp_and (v := decide (nets ≤ 12)) (fun _ J hJ => hb1.ld0 rfl hJ) ?_)
  rw [decide_eq_true n1, decide_eq_true n2, decide_eq_true (show (s.len : Int) ≤ 200 by omega)]
  refine jn.mk (fun c w' => c = true ∧ Quiet w1 w') ⟨fun _ => ?_, fun e => (by cases e)⟩ ?_
  · refine callC.use (R := fun r w' => r = false ∧ Quiet w1 w') (D58 _ _ w1 _ ?_) fun r w' h => ⟨by rw [h.1]; rfl, h.2⟩
    unfold F58
    refine (indexB_c w1 s bs _ (h.keepQ q1) (by omega) fun w' x K q hx hK => ?_).use ?_
    · refine cv_mk (ca := [Value.pointer (some (Addr.mk b1 0 none))]) Tryz.func59 NN_59 NB_59 rfl ((bvalid1_c w' x b1 nets (hb1.keepQ q) (hr x hx)).use ?_)
      rintro r w'' ⟨rfl, q''⟩
      exact hK w'' q''
    · rintro r w2 ⟨rfl, q2⟩
      exact ⟨rfl, q2⟩
  · rintro c w2 ⟨rfl, q2⟩
    exact ⟨rfl, q1.tr q2⟩

/-! ### ways -/
theorem uMII : Tryz.prog.underlying 116 = some (.map 3 3) := by kernel_rfl
theorem zvI : (Tryz.prog.info? 3).bind (·.zero) = some (.int .i64 0) := by kernel_rfl
/-- what was seen, in the order in which it was -/
structure Vis (bs : List Br) (op : List Nat) (src : Int) (n : Nat) (m : Int → Option Int) (vis : List Int) : Prop where
  head : vis[0]? = some src
  nd : vis.Nodup
  rng : ∀ x ∈ vis, 0 ≤ x ∧ x < n
  mem : ∀ x, (m x).isSome = true ↔ x ∈ vis
  rch : ∀ x ∈ vis, Rch bs op src x
  par : ∀ p x, vis[p + 1]? = some x → ∃ (i : Nat) (b : Br), m x = some (i : Int) ∧ bs[i]? = some b ∧ b.src ∈ vis.take (p + 1)
theorem Vis.start {bs : List Br} {op : List Nat} {src : Int} {n : Nat} (h : 0 ≤ src ∧ src < n) : Vis bs op src n (mset mnone src (-1)) [src] := by
  refine ⟨rfl, by simp, by simpa using h, fun x => ?_, fun x hx => ?_, fun p x hx => (by simp at hx)⟩
  · by_cases e : x = src
    · subst e
      simp [mset_same]
    · simp [mset_ne _ _ e, mnone, e]
  · simp at hx
    subst hx
    exact .refl _
theorem Vis.len {bs : List Br} {op : List Nat} {src : Int} {n : Nat} {m : Int → Option Int} {vis : List Int} (h : Vis bs op src n m vis) : vis.length ≤ n := nodup_range_le h.nd h.rng
theorem Vis.add {bs : List Br} {op : List Nat} {src : Int} {n : Nat} {m : Int → Option Int} {vis : List Int} (h : Vis bs op src n m vis) {i : Nat} {b : Br} (hi : i ∈ op) (hb : bs[i]? = some b) (hn : b.dst ∉ vis) (hs : b.src ∈ vis) (hr : 0 ≤ b.dst ∧ b.dst < n) : Vis bs op src n (mset m b.dst (i : Int)) (vis ++ [b.dst]) := by
  have hpos : 0 < vis.length := (List.getElem?_eq_some_iff.1 h.head).1
  refine ⟨?_, ?_, fun x hx => ?_, fun x => ?_, fun x hx => ?_, fun p x hx => ?_⟩
  · rw [List.getElem?_append_left hpos]
    exact h.head
  · rw [List.nodup_append]
    refine ⟨h.nd, by simp, fun a ha c hc e => ?_⟩
    simp at hc
    subst hc e
    exact hn ha
  · rcases List.mem_append.1 hx with hx | hx
    · exact h.rng x hx
    · simp at hx
      exact hx ▸ hr
  · by_cases e : x = b.dst
    · subst e
      simp [mset_same]
    · rw [mset_ne _ _ e, h.mem x]
      simp [e]
  · rcases List.mem_append.1 hx with hx | hx
    · exact h.rch x hx
    · simp at hx
      subst hx
      exact .step (h.rch _ hs) ⟨i, hi, b, hb, rfl, rfl⟩
  · by_cases e : p + 1 < vis.length
    · rw [List.getElem?_append_left e] at hx
      have hne : x ≠ b.dst := fun c => hn (c ▸ List.mem_of_getElem? hx)
      rw [mset_ne _ _ hne, List.take_append_of_le_length (by omega)]
      exact h.par p x hx
    · have hp : p + 1 = vis.length := by
        have := (List.getElem?_eq_some_iff.1 hx).1
        simp at this
        omega
      rw [hp] at hx ⊢
      simp at hx
      subst hx
      rw [mset_same, List.take_left]
      exact ⟨i, b, rfl, hb, hs⟩
theorem reverse_c (w : World) (F : Nat → Prop) (s : Sl) (xs : List Int) (h : OwnF w F 3 1 s (xs.flatMap ci)) (hl : xs.length ≤ 1000) :
    callC Tryz.prog 60 #[s.v] (fun (_ : Unit) => .tuple #[]) w fun _ w' => ∃ ys : List Int, ys.length = xs.length ∧ OwnF w' F 3 1 s (ys.flatMap ci) ∧ Only F w w' := by
  have hsl := (h.rd ci1 (by decide)).len
  refine D60 _ w _ ?_
  unfold F60
  rw [w64 (by omega) (by omega)]
  refine ⟨fun c w' => 0 ≤ c.1 ∧ c.1 ≤ xs.length ∧ -1 ≤ c.2 ∧ c.2 < xs.length ∧ ∃ ys : List Int, ys.length = xs.length ∧ OwnF w' F 3 1 s (ys.flatMap ci) ∧ Only F w w', fun c _ => (c.2 - c.1 + 1).toNat, ⟨by (try dsimp only); omega, by (try dsimp only); omega, by (try dsimp only); omega, by (try dsimp only); omega, xs, rfl, h, Only.refl _ _⟩, ?_⟩
  rintro ⟨i, j⟩ w1 ⟨i0, i1, j0, j1, ys, hy, o1, on1⟩
  dsimp only at i0 i1 j0 j1 ⊢
  refine ⟨fun hc => ?_, fun _ => ⟨ys, hy, o1, on1⟩⟩
  have hc := of_decide_eq_true hc
  refine jn.mk (fun _ w' => ∃ ys : List Int, ys.length = xs.length ∧ OwnF w' F 3 1 s (ys.flatMap ci) ∧ Only F w w') ?_ ?_
  · show tk _ _
    unfold tk
    have qd : Quiet w1 w1.drew := Only.drew _ _
    have od := o1.keepQ qd
    have hR := od.rd ci1 (by decide)
    obtain ⟨x, hx⟩ := getq (l := ys) (i := j) (by omega) (by omega)
    obtain ⟨z, hz⟩ := getq (l := ys) (i := i) (by omega) (by omega)
    refine hR.ixx (by omega) hx fun p hat _ => hat.ld0 rfl (hR.ixx (by omega) hz fun p2 hat2 _ => hat2.ld0 rfl (OwnF.put (y := x) od ci1 (by omega) (by omega) (by decide) fun w3 o3 on3 s3 => OwnF.put (y := z) o3 ci1 (by omega) (by simp; omega) (by decide) fun w4 o4 on4 s4 => ⟨_, by simp [hy], o4, ?_⟩))
    exact ((on1.then_ qd fun _ _ e => e.elim).then_ on3 fun _ _ e => e).then_ on4 fun _ _ e => e
  rintro _ w5 ⟨zs, hzl, o5, on5⟩
  rw [w64 (by omega) (by omega), w64 (by omega) (by omega)]
  exact ⟨⟨by (try dsimp only); omega, by (try dsimp only); omega, by (try dsimp only); omega, by (try dsimp only); omega, zs, hzl, o5, on5⟩, by (try dsimp only); omega⟩
theorem path_c (w : World) (s t : Sl) (bs : List Br) (op : List Nat) (nets src dst : Int) (h : Rd w br 3 s bs) (ho : Rd w ci 1 t (casts op)) (hv : VB bs nets) (hop : ∀ i ∈ op, i < bs.length) (hol : op.length ≤ 1000) (h0 : 0 ≤ src ∧ src < nets) :
    callC Tryz.prog 34 #[s.v, t.v, .int .i64 src, .int .i64 dst] (fun (r : Sl × Bool) => .tuple #[r.1.v, .bool r.2]) w fun r w' => (r.2 = true ↔ Rch bs op src dst) ∧
      ∃ (F : Nat → Prop) (xs : List Int), OwnF w' F 3 1 r.1 (xs.flatMap ci) ∧ xs.length ≤ 100 ∧ Fresh w w' F := by
  obtain ⟨⟨n1, n2⟩, hbl, hbr⟩ := hv
  have hsl := h.len
  have htl := ho.len
  rw [casts_len] at htl
  have hn : ((nets.toNat : Nat) : Int) = nets := by omega
  have hrn : ∀ x : Int, (0 ≤ x ∧ x < nets) → 0 ≤ x ∧ x < ((nets.toNat : Nat) : Int) := fun x hx => by omega
  have hnz : nets.toNat ≤ 12 := by omega
  refine D34 _ _ _ _ w _ ?_
  unfold F34
  refine rn_makeMap (α := Int) (β := Int) (ek := Value.int .i64) (ev := Value.int .i64) (fun _ => rfl) fun mb w1 hm1 q1 g1 l1 _ => ?_
  refine rn_mset src (-1) hm1 uMII kI fun w2 hm2 on2 s2 => ?_
  have q2 : Quiet w w2 := q1.new on2 fun x e => by omega
  refine nwL fun qb w3 hqb q3 gq sq lq => ?_
  refine lp_ghost (γ := List Int × Nat) (fun g l w' => ∃ (m : Int → Option Int) (Fq : Nat → Prop), Vis bs op src nets.toNat m g.1 ∧ g.2 ≤ g.1.length ∧ (∀ u ∈ g.1.take g.2, ∀ v, Go.Top.Edge bs op u v → v ∈ g.1) ∧ Mp (Value.int .i64) (Value.int .i64) w' mb m ∧
      Que w' Fq 3 1 l ((g.1.drop g.2).flatMap ci) ∧ (∀ b, Fq b → w.heap.size ≤ b ∧ b < w'.heap.size) ∧ ¬ Fq mb ∧ Quiet w w') (fun g => 12 - g.2) ([src], 0)
    ⟨_, fun x => x = qb, Vis.start (hrn _ h0), by simp, fun u hu => (by simp at hu), hm2.keepQ q3, Que.start hqb rfl (by unfold maxLen; omega), fun b e => ?_, fun e => ?_, q2.tr q3⟩ ?_
  · subst e
    have := q2.size
    exact ⟨by omega, lq⟩
  · have := hm2.lt
    omega
  rintro N ⟨vis, k⟩ l w4 ⟨m, Fq, V, hk, hcl, hm, hq, hFq, hmb, q4⟩ hN
  dsimp only at V hk hcl hq hN ⊢
  have hvl := V.len
  have hqr := hq.rd ci1 (by decide)
  have hql := hqr.len
  rw [List.length_drop] at hql
  refine ⟨fun hc => ?_, fun hc => ?_⟩
  · have hkl : k < vis.length := by have := of_decide_eq_true hc; omega
    obtain ⟨a, ha⟩ : ∃ a, vis[k]? = some a := ⟨_, List.getElem?_eq_getElem hkl⟩
    have hdrop : vis.drop k = a :: vis.drop (k + 1) := by
      obtain ⟨hk', rfl⟩ := List.getElem?_eq_some_iff.1 ha
      rw [List.getElem_cons_drop]
    refine hqr.ixx (Int.le_refl _) (x := a) (by rw [hdrop]; rfl) fun p hat _ => hat.ld0 rfl ?_
    refine Que.next (news := ci a) (xs := (vis.drop (k + 1)).flatMap ci) apI (by rw [hdrop, List.flatMap_cons] at hq; exact hq) rfl fun r16 hq16 _ => ?_
    refine ⟨fun c w' => 0 ≤ c.2 ∧ c.2 ≤ op.length ∧ ∃ (vis' : List Int) (m : Int → Option Int) (Fq : Nat → Prop), (∃ ex, vis' = vis ++ ex) ∧ Vis bs op src nets.toNat m vis' ∧ (∀ i ∈ op.take c.2.toNat, ∀ b, bs[i]? = some b → b.src = a → b.dst ∈ vis') ∧ Mp (Value.int .i64) (Value.int .i64) w' mb m ∧
        Que w' Fq 3 1 c.1 ((vis'.drop (k + 1)).flatMap ci) ∧ (∀ b, Fq b → w.heap.size ≤ b ∧ b < w'.heap.size) ∧ ¬ Fq mb ∧ Quiet w w', fun c _ => (op.length - c.2).toNat,
      ⟨Int.le_refl _, by (try dsimp only); omega, vis, m, Fq, ⟨[], by simp⟩, V, fun i hi => (by simp at hi), hm, hq16, hFq, hmb, q4⟩, ?_⟩
    rintro ⟨qs, j⟩ w6 ⟨j0, j1, vis', m', Fq', ⟨ex, hex⟩, V', hdn, hm6, hq6, hFq6, hmb6, q6⟩
    dsimp only at j0 j1 hdn hq6 ⊢
    have hvl' := V'.len
    refine ⟨fun hj => ?_, fun hj => ?_⟩
    · have hlt : j < op.length := by have := of_decide_eq_true hj; omega
      obtain ⟨i, hi⟩ := getq j0 hlt
      have hiop := List.mem_of_getElem? hi
      obtain ⟨b, hb⟩ : ∃ b, bs[i]? = some b := ⟨_, List.getElem?_eq_getElem (hop i hiop)⟩
      have hbv := hbr b (List.mem_of_getElem? hb)
      have hi2 := hop i hiop
      have htk := take_next hi
      have hqsl : qs.len ≤ 100 := by
        have h1 := (hq6.rd ci1 (by decide)).len
        rw [List.length_drop] at h1
        omega
      refine jn.mk (fun r w' => ∃ (vis' : List Int) (m : Int → Option Int) (Fq : Nat → Prop), (∃ ex, vis' = vis ++ ex) ∧ Vis bs op src nets.toNat m vis' ∧ (∀ i ∈ op.take (j.toNat + 1), ∀ b, bs[i]? = some b → b.src = a → b.dst ∈ vis') ∧ Mp (Value.int .i64) (Value.int .i64) w' mb m ∧
        Que w' Fq 3 1 r ((vis'.drop (k + 1)).flatMap ci) ∧ (∀ b, Fq b → w.heap.size ≤ b ∧ b < w'.heap.size) ∧ ¬ Fq mb ∧ Quiet w w') ?_ ?_
      · refine (ho.keepQ q6).ixx j0 (x := (i : Int)) (casts_at hi) fun p hat _ => hat.ld0 rfl ((h.keepQ q6).ixx (by omega) (x := b) (by simpa using hb) fun p2 hat2 _ => br_ld hat2 (br_box (x := b) fun bb w9 hbb q9 g9 l9 => ?_))
        have q69 := q6.tr q9
        refine hbb.at.ld (j := 1) rfl (rn_look (z := (0 : Int)) b.dst (hm6.keepQ q9) uMII kI zvI (((m' b.dst).getD 0), (m' b.dst).isSome) rfl (hbb.at.ld (j := 0) rfl ⟨fun g => ?_, fun g => ?_⟩))
        · rw [Bool.and_eq_true, decide_eq_true_eq, Bool.not_eq_true'] at g
          obtain ⟨g1, g2⟩ := g
          have hnv : b.dst ∉ vis' := fun e => by rw [(V'.mem _).2 e] at g2; cases g2
          have hav : b.src ∈ vis' := by
            rw [g1, hex]
            exact List.mem_append_left _ (List.mem_of_getElem? ha)
          refine hbb.at.ld (j := 1) rfl (rn_mset b.dst (i : Int) (hm6.keepQ q9) uMII kI fun w11 hm11 on11 s11 => ?_)
          have hbb11 : IsBr w11 bb b := Blk.keep hbb on11 fun e => by have := hm6.lt; omega
          have q11 : Quiet w w11 := q69.new on11 fun x e => by omega
          have hq11 := (hq6.keepQ q9).keep on11 fun x e e' => hmb6 (e' ▸ e)
          have hs69 := q9.size
          refine hbb11.at.ld (j := 1) rfl (Que.push (news := ci b.dst) apI hq11 (fun x e => by have := (hFq6 x e).2; omega) rfl rfl (by unfold maxLen; omega) (by omega) fun r w13 F' hq13 _ st13 hF13 => ?_)
          have hmbl := hm11.lt
          have hmb13 : ¬ F' mb := fun e => by
            rcases st13.sub mb e with e1 | e1
            · exact hmb6 e1
            · omega
          refine ⟨vis' ++ [b.dst], _, F', ⟨ex ++ [b.dst], by rw [hex, List.append_assoc]⟩, V'.add hiop hb hnv hav (hrn _ hbv.2), fun i' hi' b' hb' hs' => ?_, hm11.keep st13.only hmb6, ?_, fun x e => ⟨?_, hF13 x e⟩, hmb13, q11.new st13.only fun x e => (hFq6 x e).1⟩
          · rw [htk] at hi'
            rcases List.mem_append.1 hi' with hi' | hi'
            · exact List.mem_append_left _ (hdn i' hi' b' hb' hs')
            · simp at hi'
              subst hi'
              rw [hb] at hb'
              injection hb' with hb'
              subst hb'
              simp
          · have hle : k + 1 ≤ vis'.length := by rw [hex, List.length_append]; omega
            rw [List.drop_append_of_le_length hle, List.flatMap_append, List.flatMap_singleton]
            exact hq13
          · rcases st13.sub x e with e1 | e1
            · exact (hFq6 x e1).1
            · have := q11.size
              omega
        · refine ⟨vis', m', Fq', ⟨ex, hex⟩, V', fun i' hi' b' hb' hs' => ?_, hm6.keepQ q9, hq6.keepQ q9, fun x e => ⟨(hFq6 x e).1, by have := (hFq6 x e).2; have := q9.size; omega⟩, hmb6, q69⟩
          rw [htk] at hi'
          rcases List.mem_append.1 hi' with hi' | hi'
          · exact hdn i' hi' b' hb' hs'
          · simp at hi'
            subst hi'
            rw [hb] at hb'
            injection hb' with hb'
            subst hb'
            rw [← V'.mem]
            cases hsome : (m' b.dst).isSome with
            | true => rfl
            | false =>
              have : (decide (b.src = a) && !(m' b.dst).isSome) = false := g
              rw [hsome, decide_eq_true hs'] at this
              cases this
      rintro r w7 ⟨vis2, m2, F2, h1, h2, h3, h4⟩
      rw [w64 (by omega) (by omega)]
      refine ⟨⟨by (try dsimp only); omega, by (try dsimp only); omega, vis2, m2, F2, h1, h2, ?_, h4⟩, by (try dsimp only); omega⟩
      (try dsimp only)
      rw [toNat_succ j0]
      exact h3
    · rw [List.take_of_length_le (by have := of_decide_eq_false hj; omega)] at hdn
      refine hN (vis', k + 1) _ _ ⟨m', Fq', V', ?_, fun u hu v hv => ?_, hm6, hq6, hFq6, hmb6, q6⟩ ?_
      · rw [hex, List.length_append]
        omega
      · dsimp only at hu
        rw [hex, List.take_append_of_le_length (by omega), take_next ha] at hu
        rcases List.mem_append.1 hu with hu | hu
        · rw [hex]
          exact List.mem_append_left _ (hcl u hu v hv)
        · simp at hu
          subst hu
          obtain ⟨i, hi, b, hb, hs, rfl⟩ := hv
          exact hdn i hi b hb hs
      · dsimp only
        omega
  · have hkl : k = vis.length := by have := of_decide_eq_false hc; omega
    subst hkl
    rw [List.take_length] at hcl
    have hiff : dst ∈ vis ↔ Rch bs op src dst := ⟨fun e => V.rch dst e, fun e => e.closed (S := fun x => x ∈ vis) (List.mem_of_getElem? V.head) fun x y hx hy => hcl x hx y hy⟩
    refine rn_look (z := (0 : Int)) dst hm uMII kI zvI (((m dst).getD 0), (m dst).isSome) rfl ⟨fun g => ?_, fun g => ?_⟩
    · have g : (m dst).isSome = false := by simpa using g
      refine ⟨⟨fun e => (by cases e), fun e => ?_⟩, fun _ => False, [], OwnF.nil _ _ _ _, by simp, ⟨q4, fun _ e => e.elim⟩⟩
      rw [(V.mem dst).2 (hiff.2 e)] at g
      cases g
    have hd : dst ∈ vis := (V.mem dst).1 (by simpa using g)
    obtain ⟨p0, hp0, hpe⟩ := List.getElem_of_mem hd
    refine lp_ghost (γ := Nat) (fun p c w' => vis[p]? = some c.2 ∧ ∃ (F : Nat → Prop) (xs : List Int), OwnF w' F 3 1 c.1 (xs.flatMap ci) ∧ xs.length + p ≤ 12 ∧ Fresh w w' F ∧ Mp (Value.int .i64) (Value.int .i64) w' mb m ∧ ¬ F mb) (fun p => p) p0
      ⟨by rw [← hpe]; exact List.getElem?_eq_getElem hp0, fun _ => False, [], OwnF.nil _ _ _ _, by simp; omega, ⟨q4, fun _ e => e.elim⟩, hm, id⟩ ?_
    rintro N p ⟨out, at_⟩ w15 ⟨hp, F, xs, o15, hxs, f15, hm15, hmb15⟩ hN
    dsimp only at hp o15 ⊢
    refine ⟨fun g => ?_, fun g => ?_⟩
    · have hne : at_ ≠ src := nd g
      obtain ⟨p', rfl⟩ : ∃ p', p = p' + 1 := by
        cases p with
        | zero =>
          rw [V.head] at hp
          injection hp with hp
          exact absurd hp.symm hne
        | succ p' => exact ⟨p', rfl⟩
      obtain ⟨i, b, hmi, hbi, hsrc⟩ := V.par p' at_ hp
      have hib := (List.getElem?_eq_some_iff.1 hbi).1
      have hol : out.len = xs.length := (o15.rd ci1 (by decide)).len
      refine rn_look1 (z := (0 : Int)) at_ hm15 uMII kI zvI (i : Int) (by rw [hmi]; rfl) (OwnF.push (news := ci (i : Int)) apI o15 rfl rfl (by unfold maxLen; omega) (by omega) fun r w18 F' o18 _ st18 => ?_)
      have hm18 := hm15.keep st18.only hmb15
      have f18 := f15.stp st18
      refine rn_look1 (z := (0 : Int)) at_ hm18 uMII kI zvI (i : Int) (by rw [hmi]; rfl) ((h.keepQ f18.q).ixx (by omega) (x := b) (by simpa using hbi) fun p3 hat3 _ => hat3.ld (j := 0) rfl ?_)
      obtain ⟨p2, hp2, hpe2⟩ := List.getElem_of_mem hsrc
      rw [List.length_take] at hp2
      rw [List.getElem_take] at hpe2
      refine hN p2 _ _ ⟨by rw [← hpe2]; exact List.getElem?_eq_getElem (by omega), F', xs ++ [(i : Int)], ?_, by rw [List.length_append, List.length_singleton]; omega, f18, hm18, fun e => ?_⟩ (by omega)
      · rw [List.flatMap_append, List.flatMap_singleton]
        exact o18
      · rcases st18.sub mb e with e1 | e1
        · exact hmb15 e1
        · have := hm15.lt
          omega
    · refine (reverse_c w15 F out xs o15 (by omega)).use ?_
      rintro _ w20 ⟨ys, hys, o20, on20⟩
      exact ⟨⟨fun _ => hiff.1 hd, fun _ => rfl⟩, F, ys, o20, by omega, f15.only on20⟩

end Go.Proofs.YtgbhghoppjfofaaGreat
