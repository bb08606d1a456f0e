import Derived.Test.YtmnhehklhelpeaaSj
namespace Go.Proofs.Ytmnhehklhelpeaa
open Go.Dec Go.RowKit
set_option maxHeartbeats 1600000
set_option maxRecDepth 10000

/-- a second safe, of the one kind or the other -/
structure Sec (P : World → (Nat → Prop) → Nat → List Bo → Prop) : Prop where
  keep : ∀ {w w' : World} {F D : Nat → Prop} {b : Nat} {l : List Bo}, P w F b l → Only D w w' → (∀ b, F b → ¬ D b) → P w' F b l
  lt : ∀ {w : World} {F : Nat → Prop} {b : Nat} {l : List Bo}, P w F b l → ∀ b, F b → b < w.heap.size
theorem secS : Sec IsS := ⟨fun h ho hd => h.keep ho hd, fun h => h.lt⟩
theorem secQ : Sec IsQ := ⟨fun h ho hd => h.keep ho hd, fun h => h.lt⟩
def un (F G R : Nat → Prop) : Nat → Prop := fun b => F b ∨ G b ∨ R b
/-- two safes, a row of rows, and the rows that are kept -/
structure TX (P : World → (Nat → Prop) → Nat → List Bo → Prop) (B w : World) (F G R : Nat → Prop) (sb rb : Nat) (sh : Sl) (lS lQ : List Bo) (rows keeps : List (Sl × List Pt)) : Prop where
  s : IsS w F sb lS
  q : P w G rb lQ
  r : OwnF w R 25 1 sh (rows.flatMap cR)
  rl : ∀ b, R b → b < w.heap.size
  fg : ∀ b, F b → ¬ G b
  fr : ∀ b, F b → ¬ R b
  gr : ∀ b, G b → ¬ R b
  sub : ∀ x ∈ rows, x ∈ keeps
  kp : ∀ x ∈ keeps, Kp w (un F G R) x.1 x.2 ∧ x.2.length ≤ 20
  nw_ : New B w (un F G R)
variable {P : World → (Nat → Prop) → Nat → List Bo → Prop} {B w w' : World} {F G R F' G' R' : Nat → Prop} {sb rb sb' : Nat} {sh sh' : Sl} {lS lQ lS' lQ' : List Bo} {rows keeps : List (Sl × List Pt)}
theorem un1 (h : Stp F w F' w') : Stp (un F G R) w (un F' G R) w' := ⟨h.only.mono fun b _ e => .inl e, fun b e => by
  rcases e with e | e | e
  · exact (h.sub b e).imp .inl id
  · exact .inl (.inr (.inl e))
  · exact .inl (.inr (.inr e))⟩
theorem un2 (h : Stp G w G' w') : Stp (un F G R) w (un F G' R) w' := ⟨h.only.mono fun b _ e => .inr (.inl e), fun b e => by
  rcases e with e | e | e
  · exact .inl (.inl e)
  · exact (h.sub b e).imp (fun e => .inr (.inl e)) id
  · exact .inl (.inr (.inr e))⟩
theorem un3 (h : Stp R w R' w') : Stp (un F G R) w (un F G R') w' := ⟨h.only.mono fun b _ e => .inr (.inr e), fun b e => by
  rcases e with e | e | e
  · exact .inl (.inl e)
  · exact .inl (.inr (.inl e))
  · exact (h.sub b e).imp (fun e => .inr (.inr e)) id⟩
theorem TX.s1 (hP : Sec P) (h : TX P B w F G R sb rb sh lS lQ rows keeps) (st : Stp F w F' w') (hs : IsS w' F' sb lS') : TX P B w' F' G R sb rb sh lS' lQ rows keeps := by
  have z := st.only.size
  have u := un1 (G := G) (R := R) st
  refine ⟨hs, hP.keep h.q st.only fun b hb e => h.fg b e hb, h.r.keep st.only fun b hb e => h.fr b e hb, fun b hb => by have := h.rl b hb; omega, fun b hb hb' => ?_, fun b hb hb' => ?_, h.gr, h.sub, fun x hx => ⟨(h.kp x hx).1.stp u, (h.kp x hx).2⟩, h.nw_.stp u⟩
  · rcases st.sub b hb with e | e
    · exact h.fg b e hb'
    · have := hP.lt h.q b hb'
      omega
  · rcases st.sub b hb with e | e
    · exact h.fr b e hb'
    · have := h.rl b hb'
      omega
theorem TX.s2 (hP : Sec P) (h : TX P B w F G R sb rb sh lS lQ rows keeps) (st : Stp G w G' w') (hq : P w' G' rb lQ') : TX P B w' F G' R sb rb sh lS lQ' rows keeps := by
  have z := st.only.size
  have u := un2 (F := F) (R := R) st
  refine ⟨h.s.keep st.only h.fg, hq, h.r.keep st.only fun b hb e => h.gr b e hb, fun b hb => by have := h.rl b hb; omega, fun b hb hb' => ?_, h.fr, fun b hb hb' => ?_, h.sub, fun x hx => ⟨(h.kp x hx).1.stp u, (h.kp x hx).2⟩, h.nw_.stp u⟩
  · rcases st.sub b hb' with e | e
    · exact h.fg b hb e
    · have := h.s.lt b hb
      omega
  · rcases st.sub b hb with e | e
    · exact h.gr b e hb'
    · have := h.rl b hb'
      omega
theorem TX.qt (hP : Sec P) (h : TX P B w F G R sb rb sh lS lQ rows keeps) (q : Quiet w w') : TX P B w' F G R sb rb sh lS lQ rows keeps :=
  h.s1 hP (Stp.quiet q) (h.s.keepQ q)
theorem TX.add (h : TX P B w F G R sb rb sh lS lQ rows keeps) {x : Sl × List Pt} (k : Kp w (un F G R) x.1 x.2) (hl : x.2.length ≤ 20) : TX P B w F G R sb rb sh lS lQ rows (x :: keeps) :=
  ⟨h.s, h.q, h.r, h.rl, h.fg, h.fr, h.gr, fun y hy => List.mem_cons_of_mem _ (h.sub y hy), fun y hy => by
    rcases List.mem_cons.1 hy with e | e
    · rw [e]
      exact ⟨k, hl⟩
    · exact h.kp y e, h.nw_⟩
theorem TX.drop (h : TX P B w F G R sb rb sh lS lQ rows keeps) : TX P B w F G R sb rb sh lS lQ rows rows :=
  ⟨h.s, h.q, h.r, h.rl, h.fg, h.fr, h.gr, fun y hy => hy, fun y hy => h.kp y (h.sub y hy), h.nw_⟩
/-- the first safe gives way to another one -/
theorem TX.rep (h : TX P B w F G R sb rb sh lS lQ rows keeps) (hs : IsS w F' sb' lS') (hG : ∀ b, F' b → ¬ G b) (hR : ∀ b, F' b → ¬ R b) (hB : ∀ b, F' b → B.heap.size ≤ b) (hk : ∀ x ∈ keeps, ∀ ad, x.1.a = some ad → ¬ F' ad.block) : TX P B w F' G R sb' rb sh lS' lQ rows keeps := by
  refine ⟨hs, h.q, h.r, h.rl, hG, hR, h.gr, h.sub, fun x hx => ?_, ⟨h.nw_.1, fun b hb => ?_⟩⟩
  · obtain ⟨k1, k2⟩ := h.kp x hx
    refine ⟨⟨k1.1, k1.2.1, fun ad ha => ?_⟩, k2⟩
    have h1 := k1.2.2 ad ha
    refine ⟨h1.1, fun e => ?_⟩
    rcases e with e | e | e
    · exact hk x hx ad ha e
    · exact h1.2 (.inr (.inl e))
    · exact h1.2 (.inr (.inr e))
  · rcases hb with e | e | e
    · exact hB b e
    · exact h.nw_.2 b (.inr (.inl e))
    · exact h.nw_.2 b (.inr (.inr e))
theorem apR : appOK Try.prog 34 25 1 24 = true := by kernel_rfl
theorem TX.push (hP : Sec P) (h : TX P B w F G R sb rb sh lS lQ rows keeps) {x : Sl × List Pt} (hx : x ∈ keeps) (hl : rows.length ≤ 1000) {K : Sl → World → Prop}
    (k : ∀ r w' R', TX P B w' F G R' sb rb r lS lQ (rows ++ [x]) keeps → K r w') :
    nw 25 #[Sl.v x.1] w fun b w1 => rn Try.prog (Builtin.append_ #[34, 34] 34 #[Sl.v sh, Sl.v (⟨some ⟨b, 0, none⟩, 1, 1⟩ : Sl)]) Sl.v w1 K := by
  have hsl := (h.r.rd cR1 (by decide)).len
  refine h.r.push (news := cR x) apR rfl rfl (by unfold maxLen; omega) (by omega) fun r w2 R' o2 _ st => k r w2 R' ?_
  have z := st.only.size
  have u := un3 (F := F) (G := G) st
  refine ⟨h.s.keep st.only h.fr, hP.keep h.q st.only h.gr, by simpa using o2, fun b hb => ?_, h.fg, fun b hb hb' => ?_, fun b hb hb' => ?_, fun y hy => ?_, fun y hy => ⟨(h.kp y hy).1.stp u, (h.kp y hy).2⟩, h.nw_.stp u⟩
  · rcases st.sub b hb with e | e
    · have := h.rl b e
      omega
    · exact e.2
  · rcases st.sub b hb' with e | e
    · exact h.fr b hb e
    · have := h.s.lt b hb
      omega
  · rcases st.sub b hb' with e | e
    · exact h.gr b hb e
    · have := hP.lt h.q b hb
      omega
  · rcases List.mem_append.1 hy with e | e
    · exact h.sub y e
    · rw [List.mem_singleton.1 e]
      exact hx

/-! ### what sealing says -/
noncomputable def sealV (l : List Bo) (t : ByteArray) (k n seed : Int) : List Bo × Int × List Pt × Int :=
  open Classical in
  if ¬ okN k n then (l, 0, [], 1) else if 65536 < t.size then (l, 0, [], 6) else (l ++ [⟨t, k, false⟩], (l.length : Int), splP l.length k.toNat n.toNat seed, 0)
theorem sealV_len (l : List Bo) (t : ByteArray) (k n seed : Int) : (sealV l t k n seed).1.length ≤ l.length + 1 := by
  unfold sealV
  split
  · simp
  · split
    · simp
    · simp
theorem sealV_val {l l' : List Bo} {t : ByteArray} {k n seed : Int} {r : Int × Sl × Int} (h : SealR w F' l l' t k n seed r w') : l' = (sealV l t k n seed).1 ∧ r.1 = (sealV l t k n seed).2.1 ∧ r.2.2 = (sealV l t k n seed).2.2.2 ∧ Rd w' pt 2 r.2.1 (sealV l t k n seed).2.2.1 ∧ (sealV l t k n seed).2.2.1.length ≤ 20 ∧ r.2.1.len ≤ r.2.1.cap ∧ ∀ ad, r.2.1.a = some ad → (w.heap.size ≤ ad.block ∧ ad.block < w'.heap.size) ∧ ¬ F' ad.block := by
  unfold sealV
  rcases h with ⟨h1, rfl, rfl⟩ | ⟨h0, h1, rfl, rfl⟩ | ⟨h0, h1, e1, e2, rfl, D, o, hD⟩
  · rw [if_pos h1]
    exact ⟨rfl, rfl, rfl, Rd.nil _ _ _, by simp, Nat.le_refl _, fun ad e => by cases e⟩
  · rw [if_neg (by simpa using h0), if_pos h1]
    exact ⟨rfl, rfl, rfl, Rd.nil _ _ _, by simp, Nat.le_refl _, fun ad e => by cases e⟩
  · rw [if_neg (by simpa using h0), if_neg (by omega)]
    refine ⟨rfl, e1, e2, o.rd pt_len (by decide), ?_, o.cap, fun ad ha => hD _ (o.blk _ (by simp [Sl.blk, ha]))⟩
    rw [spl_len]
    have := h0.1
    omega
theorem TX.seal (hP : Sec P) (h : TX P B w F G R sb rb sh lS lQ rows keeps) {t : ByteArray} {k n seed : Int} (hl : lS.length ≤ 1000) (hk : -9223372036854775808 ≤ k) :
    callC Try.prog 9 #[.pointer (some ⟨sb, 0, none⟩), .string t, .int .i64 k, .int .i64 n, .int .i64 seed] (fun (r : Int × Sl × Int) => .tuple #[.int .i64 r.1, Sl.v r.2.1, .int .i64 r.2.2]) w fun r w' => r.1 = (sealV lS t k n seed).2.1 ∧ r.2.2 = (sealV lS t k n seed).2.2.2 ∧ ∃ F', TX P B w' F' G R sb rb sh (sealV lS t k n seed).1 lQ rows ((r.2.1, (sealV lS t k n seed).2.2.1) :: keeps) ∧ Stp (un F G R) w (un F' G R) w' := by
  refine (seal_c w F sb lS t k n seed h.s hl hk).use ?_
  rintro r w' ⟨F', l', hS, st, hr⟩
  obtain ⟨rfl, e1, e2, e3, e4, e5, e6⟩ := sealV_val hr
  refine ⟨e1, e2, F', (h.s1 hP st hS).add ⟨e3, e5, fun ad ha => ⟨(e6 ad ha).1.2, ?_⟩⟩ e4, un1 st⟩
  have h6 := e6 ad ha
  rintro (e | e | e)
  · exact h6.2 e
  · have := hP.lt h.q _ e
    omega
  · have := h.rl _ e
    omega
theorem TX.seal2 (h : TX IsS B w F G R sb rb sh lS lQ rows keeps) {t : ByteArray} {k n seed : Int} (hl : lQ.length ≤ 1000) (hk : -9223372036854775808 ≤ k) :
    callC Try.prog 9 #[.pointer (some ⟨rb, 0, none⟩), .string t, .int .i64 k, .int .i64 n, .int .i64 seed] (fun (r : Int × Sl × Int) => .tuple #[.int .i64 r.1, Sl.v r.2.1, .int .i64 r.2.2]) w fun r w' => r.1 = (sealV lQ t k n seed).2.1 ∧ r.2.2 = (sealV lQ t k n seed).2.2.2 ∧ ∃ G', TX IsS B w' F G' R sb rb sh lS (sealV lQ t k n seed).1 rows ((r.2.1, (sealV lQ t k n seed).2.2.1) :: keeps) := by
  refine (seal_c w G rb lQ t k n seed h.q hl hk).use ?_
  rintro r w' ⟨G', l', hS, st, hr⟩
  obtain ⟨rfl, e1, e2, e3, e4, e5, e6⟩ := sealV_val hr
  refine ⟨e1, e2, G', (h.s2 secS st hS).add ⟨e3, e5, fun ad ha => ⟨(e6 ad ha).1.2, ?_⟩⟩ e4⟩
  have h6 := e6 ad ha
  rintro (e | e | e)
  · have := h.s.lt _ e
    omega
  · exact h6.2 e
  · have := h.rl _ e
    omega
theorem TX.rseal (h : TX IsQ B w F G R sb rb sh lS lQ rows keeps) {t : ByteArray} {k n seed : Int} (hl : lQ.length ≤ 1000) :
    callC Try.prog 20 #[.pointer (some ⟨rb, 0, none⟩), .string t, .int .i64 k, .int .i64 n, .int .i64 seed] (fun (r : Int × Sl × Int) => .tuple #[.int .i64 r.1, Sl.v r.2.1, .int .i64 r.2.2]) w fun r w' => r.1 = (sealV lQ t k n seed).2.1 ∧ r.2.2 = (sealV lQ t k n seed).2.2.2 ∧ ∃ G', TX IsQ B w' F G' R sb rb sh lS (sealV lQ t k n seed).1 rows ((r.2.1, (sealV lQ t k n seed).2.2.1) :: keeps) := by
  refine (rseal_s w G rb lQ t k n seed h.q hl).use ?_
  rintro r w' ⟨G', l', hS, st, hr⟩
  obtain ⟨rfl, e1, e2, e3, e4, e5, e6⟩ := sealV_val hr
  refine ⟨e1, e2, G', (h.s2 secQ st hS).add ⟨e3, e5, fun ad ha => ⟨(e6 ad ha).1.2, ?_⟩⟩ e4⟩
  have h6 := e6 ad ha
  rintro (e | e | e)
  · have := h.s.lt _ e
    omega
  · exact h6.2 e
  · have := h.rl _ e
    omega
theorem TX.burn (hP : Sec P) (h : TX P B w F G R sb rb sh lS lQ rows keeps) {i : Int} (hl : lS.length ≤ 1000) :
    callC Try.prog 14 #[.pointer (some ⟨sb, 0, none⟩), .int .i64 i] (fun (r : Int) => .int .i64 r) w fun r w' => r = (burnL lS i).2 ∧ ∃ F', TX P B w' F' G R sb rb sh (burnL lS i).1 lQ rows keeps ∧ Stp (un F G R) w (un F' G R) w' :=
  (burn_s w F sb lS i h.s hl).use fun _ _ ⟨e, F', hS, st⟩ => ⟨e, F', h.s1 hP st hS, un1 st⟩
theorem TX.burn2 (h : TX IsS B w F G R sb rb sh lS lQ rows keeps) {i : Int} (hl : lQ.length ≤ 1000) :
    callC Try.prog 14 #[.pointer (some ⟨rb, 0, none⟩), .int .i64 i] (fun (r : Int) => .int .i64 r) w fun r w' => r = (burnL lQ i).2 ∧ ∃ G', TX IsS B w' F G' R sb rb sh lS (burnL lQ i).1 rows keeps :=
  (burn_s w G rb lQ i h.q hl).use fun _ _ ⟨e, F', hS, st⟩ => ⟨e, F', h.s2 secS st hS⟩
theorem TX.rburn (h : TX IsQ B w F G R sb rb sh lS lQ rows keeps) {i : Int} :
    callC Try.prog 22 #[.pointer (some ⟨rb, 0, none⟩), .int .i64 i] (fun (r : Int) => .int .i64 r) w fun r w' => r = (burnL lQ i).2 ∧ ∃ G', TX IsQ B w' F G' R sb rb sh lS (burnL lQ i).1 rows keeps :=
  (rburn_s w G rb lQ i h.q).use fun _ _ ⟨e, F', hS, st⟩ => ⟨e, F', h.s2 secQ st hS⟩
/-- an operation that is kept beside what is written -/
def OpK (w : World) (U : Nat → Prop) (b : Nat) (o : Op) : Prop := IsOp w b o ∧ ¬ U b ∧ b < w.heap.size
theorem OpK.stp {U U' : Nat → Prop} {b : Nat} {o : Op} (h : OpK w U b o) (st : Stp U w U' w') : OpK w' U' b o := by
  have := st.only.size
  have h3 := h.2.2
  refine ⟨Blk.keep h.1 st.only h.2.1, fun e => ?_, by omega⟩
  rcases st.sub b e with e | e
  · exact h.2.1 e
  · omega
theorem OpK.q {U : Nat → Prop} {b : Nat} {o : Op} (h : OpK w U b o) (q : Quiet w w') : OpK w' U b o := h.stp (Stp.quiet q)
theorem op_ld {p : Addr} {o : Op} {K : Int → Int → Int → Int → Int → Int → Int → ByteArray → Sl → Prop} (h : AtC w p (op o)) (k : K o.kind o.box o.from_ o.k o.n o.seed o.y o.text o.take) : L36 p w K :=
  h.ld (j := 0) rfl (h.ld (j := 1) rfl (h.ld (j := 2) rfl (h.ld (j := 3) rfl (h.ld (j := 4) rfl (h.ld (j := 5) rfl (h.ld (j := 6) rfl (h.ld (j := 7) rfl (h.ld (j := 8) rfl k))))))))
theorem TX.lt (hP : Sec P) (h : TX P B w F G R sb rb sh lS lQ rows keeps) : ∀ b, un F G R b → b < w.heap.size := fun b e => by
  rcases e with e | e | e
  · exact h.s.lt b e
  · exact hP.lt h.q b e
  · exact h.rl b e
theorem same45_c (w : World) (s t : Sl) (l m : List Pt) (h : Rd w pt 2 s l) (h' : Rd w pt 2 t m) (hk : l.length ≤ 1000000) : callC Try.prog 12 #[s.v, t.v] (fun (r : Bool) => .bool r) w fun r w' => r = decide (l = m) ∧ Quiet w w' := by
  have hsl := h.len
  have htl := h'.len
  refine D12 _ _ w _ ?_
  unfold F12
  refine ⟨fun g => ⟨(decide_eq_false fun e => nd g (by rw [hsl, htl, e])).symm, Only.refl _ _⟩, fun g => ?_⟩
  have hlen := nt g
  refine ⟨fun i w' => 0 ≤ i ∧ i ≤ l.length ∧ l.take i.toNat = m.take i.toNat ∧ Quiet w w', fun i _ => (l.length - i).toNat, ⟨by omega, by omega, by simp, Only.refl _ _⟩, ?_⟩
  rintro i w1 ⟨i0, i1, hn, q⟩
  refine ⟨fun hi => ?_, fun hi => ?_⟩
  · have hi : i < (s.len : Int) := of_decide_eq_true hi
    obtain ⟨x, hx⟩ := getq (l := l) i0 (by omega)
    obtain ⟨y, hy⟩ := getq (l := m) i0 (by omega)
    refine jn_any' (W := w) (!decide (x = y)) ?_ fun w2 q2 => ?_
    · show tk _ _
      unfold tk
      replace q := q.tr (Only.drew (fun _ => False) _)
      refine (h.keepQ q).ixx i0 hx fun p hat _ => pt_ld hat ((h'.keepQ q).ixx i0 hy fun p hat _ => pt_ld hat ⟨?_, q⟩)
      congr 1
      rw [Bool.eq_iff_iff, decide_eq_true_eq]
      cases x
      cases y
      simp
    refine ⟨fun g => ⟨(decide_eq_false fun e => nd g ?_).symm, q2⟩, fun g => ?_⟩
    · rw [e, hy] at hx
      injection hx with hx
      exact hx.symm
    · rw [w64 (by omega) (by omega)]
      refine ⟨⟨by omega, by omega, ?_, q2⟩, by (try dsimp only); omega⟩
      rw [toNat_succ i0, take_next hx, take_next hy, hn, nt g]
  · have hi : ¬ i < (s.len : Int) := of_decide_eq_false hi
    rw [List.take_of_length_le (by omega), List.take_of_length_le (by omega)] at hn
    exact ⟨(decide_eq_true hn).symm, q⟩
end Go.Proofs.Ytmnhehklhelpeaa
