import Derived.Test.YtaogjbmgobfdoaaKq
namespace Go.Proofs.Ytaogjbmgobfdoaa
open Go.Dec Go.RowKit
set_option maxHeartbeats 400000

/-! ### the plain law -/
theorem lead_true : ∀ {l : List Bool} {i : Nat}, i < lead l → l[i]? = some true
  | [], i, h => by simp [lead] at h
  | b :: r, i, h => by
    unfold lead at h
    split at h
    · rename_i hb
      subst hb
      cases i with
      | zero => rfl
      | succ i => simpa using lead_true (l := r) (i := i) (by omega)
    · omega
theorem lead_false : ∀ {l : List Bool}, l[lead l]? ≠ some true
  | [] => by simp [lead]
  | b :: r => by
    unfold lead
    split
    · simpa using lead_false (l := r)
    · rename_i hb
      simpa using hb
theorem fin_get {Q : RS} {j : Nat} : Q.fin.H[j]? = some true ↔ Q.H[lead Q.H + j]? = some true := by
  unfold RS.fin
  dsimp only
  have hl := lead_le Q.H
  by_cases h : j < (Q.H.drop (lead Q.H)).length
  · rw [List.getElem?_append_left h, List.getElem?_drop]
  · rw [List.getElem?_append_right (by omega)]
    rw [List.length_drop] at h
    rw [List.getElem?_eq_none (l := Q.H) (by omega), List.getElem?_replicate]
    split <;> simp
theorem fin_head {Q : RS} : Q.fin.H[0]? ≠ some true := by
  intro h
  rw [fin_get, Nat.add_zero] at h
  exact lead_false h
/-- what is marked behind a frame -/
theorem take_get {Q : RS} {f : Int} (hk : Q.ok) (p : Int) (hp : (Q.take f).R ≤ p) : ((Q.take f).H[(p - (Q.take f).R).toNat]? = some true) ↔ (Q.H[(p - Q.R).toNat]? = some true ∨ (¬ Q.out f ∧ p = f)) := by
  have hh := hk.h
  unfold RS.take at hp ⊢
  by_cases ho : Q.out f
  · rw [if_pos ho]
    simp [ho]
  · rw [if_neg ho] at hp ⊢
    have hR : (Q.mark f).fin.R = Q.R + lead (Q.mark f).H := rfl
    rw [fin_get]
    rw [hR] at hp ⊢
    have e : lead (Q.mark f).H + (p - (Q.R + lead (Q.mark f).H)).toNat = (p - Q.R).toNat := by omega
    rw [e]
    unfold RS.out at ho
    show (Q.H.set (f - Q.R).toNat true)[(p - Q.R).toNat]? = some true ↔ _
    by_cases h1 : p = f
    · subst h1
      rw [List.getElem?_set_self (by omega)]
      unfold RS.out
      simp [ho]
    · rw [List.getElem?_set_ne (by omega)]
      simp [h1]
structure Lk (S : SS) (Q : RS) : Prop where
  so : S.ok
  qo : Q.ok
  w : S.W = Q.W
  rN : Q.R ≤ S.N
  rB : Q.R ≤ S.B + S.W
  bR : S.B ≤ Q.R
  mkd : ∀ p : Int, Q.R ≤ p → Q.H[(p - Q.R).toNat]? = some true → p < S.N ∧ p < S.B + S.W
  hd : Q.H[0]? ≠ some true
theorem Lk.start {n : Int} (h : win n) : Lk ⟨n, 0, 0⟩ (RS.new n) := by
  have h' := h
  unfold win at h'
  refine ⟨⟨h.1, h.2, Int.le_refl _, Int.le_refl _, show (0 : Int) ≤ 900 by decide⟩, RS.new_ok h, rfl, Int.le_refl _, ?_, Int.le_refl _, fun p _ hm => ?_, ?_⟩
  · show (0 : Int) ≤ 0 + n
    omega
  · unfold RS.new at hm
    dsimp only at hm
    rw [List.getElem?_replicate] at hm
    split at hm <;> simp at hm
  · unfold RS.new
    dsimp only
    rw [List.getElem?_replicate]
    split <;> simp
theorem Lk.send {S : SS} {Q : RS} (h : Lk S Q) (hn : S.N < 900) : Lk S.send Q := by
  obtain ⟨s0, s1, s2, s3, s4⟩ := h.so
  refine ⟨⟨s0, s1, s2, ?_, ?_⟩, h.qo, h.w, ?_, h.rB, h.bR, fun p hp hm => ?_, h.hd⟩
  · show S.B ≤ S.N + 1
    omega
  · show S.N + 1 ≤ 900
    omega
  · have := h.rN
    show Q.R ≤ S.N + 1
    omega
  · have := h.mkd p hp hm
    exact ⟨by show p < S.N + 1; omega, this.2⟩
theorem Lk.ack {S : SS} {Q : RS} (h : Lk S Q) {n : Int} (n0 : 0 ≤ n) (n1 : n ≤ Q.R) : S.err n = 0 ∧ Lk (S.ack n) Q ∧ (S.ack n).B = max S.B n ∧ (S.ack n).N = S.N ∧ (S.ack n).W = S.W := by
  have h1 := h.rN
  have h2 := h.rB
  have h3 := h.bR
  have hno : ¬ (n < 0 ∨ S.N < n ∨ S.B + S.W < n) := by omega
  have ha := h.so.ack n
  have e : S.ack n = { S with B := max S.B n } := by unfold SS.ack; rw [if_neg hno]
  refine ⟨by unfold SS.err; rw [if_neg hno], ?_, by rw [e], by rw [e], by rw [e]⟩
  rw [e] at ha ⊢
  refine ⟨ha, h.qo, h.w, h1, ?_, ?_, fun p hp hm => ?_, h.hd⟩
  · show Q.R ≤ max S.B n + S.W
    omega
  · show max S.B n ≤ Q.R
    omega
  · have := h.mkd p hp hm
    exact ⟨this.1, by show p < max S.B n + S.W; omega⟩
theorem Lk.take {S : SS} {Q : RS} (h : Lk S Q) {f : Int} (f1 : f < S.N) (f2 : f < S.B + S.W) : Lk S (Q.take f) := by
  have h1 := h.rN
  have h4 := h.so.n1
  have hr := RS.take_R h.qo f
  have hqo := h.qo.take f (by omega)
  have hd : (Q.take f).H[0]? ≠ some true := by
    unfold RS.take
    split
    · exact h.hd
    · exact fin_head
  -- all numbers below the new R were marked
  have hall : ∀ p : Int, Q.R ≤ p → p < (Q.take f).R → p < S.N ∧ p < S.B + S.W := by
    intro p p0 p1
    unfold RS.take at p1
    by_cases ho : Q.out f
    · rw [if_pos ho] at p1
      omega
    · rw [if_neg ho] at p1
      have hR : (Q.mark f).fin.R = Q.R + lead (Q.mark f).H := rfl
      rw [hR] at p1
      have hm := lead_true (l := (Q.mark f).H) (i := (p - Q.R).toNat) (by omega)
      have e : (Q.mark f).H = Q.H.set (f - Q.R).toNat true := rfl
      rw [e] at hm
      by_cases h1 : (f - Q.R).toNat = (p - Q.R).toNat
      · unfold RS.out at ho
        have : p = f := by omega
        omega
      · rw [List.getElem?_set_ne h1] at hm
        exact h.mkd p p0 hm
  have hb : (Q.take f).R ≤ S.N ∧ (Q.take f).R ≤ S.B + S.W := by
    by_cases e : (Q.take f).R = Q.R
    · rw [e]
      exact ⟨h.rN, h.rB⟩
    · have := hall ((Q.take f).R - 1) (by omega) (by omega)
      omega
  have hW : (Q.take f).W = Q.W := by unfold RS.take; split <;> rfl
  refine ⟨h.so, hqo, h.w.trans hW.symm, hb.1, hb.2, by have := h.bR; omega, fun p hp hm => ?_, hd⟩
  rcases (take_get h.qo p hp).1 hm with e | ⟨_, e⟩
  · exact h.mkd p (by omega) e
  · omega

/-! ### the examples -/
structure SRO (W w : World) (F G : Nat → Prop) (sb rb : Nat) (S : SS) (Q : RS) : Prop where
  s : IsS w F sb S
  r : IsR w G rb Q
  o : Objs W w (two F G)
theorem SRO.quiet {W w w' : World} {F G : Nat → Prop} {sb rb : Nat} {S : SS} {Q : RS} (h : SRO W w F G sb rb S Q) (q : Quiet w w') : SRO W w' F G sb rb S Q := ⟨h.s.keepQ q, h.r.keepQ q, h.o.quiet q⟩
theorem SRO.stepS {W w w' : World} {F F' G : Nat → Prop} {sb rb : Nat} {S S' : SS} {Q : RS} (h : SRO W w F G sb rb S Q) (hs : IsS w' F' sb S') (st : Stp F w F' w') : SRO W w' F' G sb rb S' Q := ⟨hs, h.r.keep st.only h.o.d10, h.o.s0 st⟩
theorem SRO.stepR {W w w' : World} {F G G' : Nat → Prop} {sb rb : Nat} {S : SS} {Q Q' : RS} (h : SRO W w F G sb rb S Q) (hr : IsR w' G' rb Q') (st : Stp G w G' w') : SRO W w' F G' sb rb S Q' := ⟨h.s.keep st.only h.o.d01, hr, h.o.s1 st⟩
theorem oq {W w : World} (q : Quiet W w) : Objs W w (two (fun _ => False) fun _ => False) := (Objs.none2 (Objs.start W)).quiet q
/-- both ends, made -/
theorem SRO.make (w : World) {W : World} (n : Int) (qW : Quiet W w) {K : (Option Addr × Int) → World → Prop} (hno : ¬ win n → ∀ w', Quiet W w' → K (none, 1) w')
    (hk : win n → ∀ sb F w', IsS w' F sb ⟨n, 0, 0⟩ → Fresh w w' F → K (some ⟨sb, 0, none⟩, 0) w') : callC Try.prog 8 #[.int .i64 n] (fun (r : Option Addr × Int) => .tuple #[.pointer r.1, .int .i64 r.2]) w K := by
  refine (news_c w n).use ?_
  rintro r w' ⟨h1, h2, q⟩
  by_cases hw : win n
  · obtain ⟨b, F, rfl, hs, hf⟩ := h1 hw
    exact hk hw b F w' hs hf
  · rw [h2 hw]
    exact hno hw w' (qW.tr q)

theorem small_c (w : World) : callC Try.prog 7 #[] (fun (r : Bool) => .bool r) w fun r w' => r = true ∧ Quiet w w' := by
  have w2 : win 2 := by decide
  refine D7 w _ ?_
  unfold F7
  refine (news_c w 2).use ?_
  rintro r1 w1 ⟨h1, -, q1⟩
  obtain ⟨sb, F, rfl, hs, hF⟩ := h1 w2
  refine (newr_c w1 2).use ?_
  rintro r2 w2' ⟨h2, -, q2⟩
  obtain ⟨rb, G, rfl, hr, hG⟩ := h2 w2
  refine (newr_c w2' 2).use ?_
  rintro r3 w3 ⟨h3, -, q3⟩
  obtain ⟨ob, H, rfl, ho, hH⟩ := h3 w2
  refine ⟨fun hc => absurd hc (by simp), fun _ => ?_⟩
  have hO : Objs w w2' (two F G) := ((oq (Only.refl _ w)).n0 hF).n1 hG
  have h0 : SRO w w3 F G sb rb ⟨2, 0, 0⟩ (RS.new 2) := ⟨(hs.keepQ q2).keepQ q3, hr.keepQ q3, hO.quiet q3⟩
  have hHd : ∀ b, H b → ¬ F b ∧ ¬ G b := fun b e => by
    have e1 := (hH.b b e).1
    have e2 := (hF.b b)
    have e3 := (hG.b b)
    have := q2.size
    refine ⟨fun e => ?_, fun e => ?_⟩
    · have := (e2 e).2
      omega
    · have := (e3 e).2
      omega
  -- three are sent
  refine ⟨fun i w' => 0 ≤ i ∧ i ≤ 3 ∧ SRO w w' F G sb rb ⟨2, i, 0⟩ (RS.new 2) ∧ IsR w' H ob (RS.new 2), fun i _ => (3 - i).toNat, ⟨by omega, by omega, h0, ho⟩, ?_⟩
  rintro i w4 ⟨i0, i1, hh, ho⟩
  refine ⟨fun hi => ?_, fun hi => ?_⟩
  · have hlt : i < 3 := by simpa using hi
    refine (send_c w4 F sb _ hh.s ⟨show (1 : Int) ≤ 2 by decide, show (2 : Int) ≤ 64 by decide, show (0 : Int) ≤ 0 by decide, i0, show i ≤ 900 by omega⟩).use ?_
    rintro r15 w5 ⟨_, s1, st⟩
    rw [w64 (by omega) (by omega)]
    exact ⟨⟨by omega, by omega, hh.stepS s1 st, ho.keep st.only fun b e => (hHd b e).1⟩, by (try dsimp only); omega⟩
  have hi3 : i = 3 := by have : ¬ i < 3 := by simpa using hi
                         omega
  subst hi3
  have ok3 : ∀ B : Int, 0 ≤ B → B ≤ 3 → SS.ok ⟨2, 3, B⟩ := fun B b0 b1 => ⟨show (1 : Int) ≤ 2 by decide, show (2 : Int) ≤ 64 by decide, b0, b1, show (3 : Int) ≤ 900 by decide⟩
  refine (frames_c w4 F sb _ hh.s (ok3 0 (by decide) (by decide))).use ?_
  rintro r16 w6 ⟨G16, o16, f16⟩
  have hh6 := hh.quiet f16.q
  have ho6 := ho.keepQ f16.q
  have fr1 : SS.frames ⟨2, 3, 0⟩ = [0, 1] := by rfl
  rw [fr1] at o16
  have d16 : ∀ b, G16 b → ¬ G b := fun b e1 e2 => by
    have := (f16.b b e1).1
    have := hh.r.lt b e2
    omega
  have T : ∀ {w : World} (Q : RS) (f : Int), IsR w G rb Q → Q.ok → Q.R ≤ 10 → callC Try.prog 20 #[.pointer (some ⟨rb, 0, none⟩), .int .i64 f] (fun (r : Sl × Int) => .tuple #[r.1.v, .int .i64 r.2]) w fun r w' => r.2 = (Q.take f).R ∧ IsR w' G rb (Q.take f) ∧ Stp G w G w' ∧ ∃ G', OwnF w' G' 3 1 r.1 ((Q.got f).flatMap ci) ∧ ∀ x, G' x → w.heap.size ≤ x ∧ x < w'.heap.size :=
    fun Q f h hk hr => take_c _ G rb Q f h hk (by omega)
  have okR : ∀ (R : Int) (H : List Bool), 0 ≤ R → R ≤ 10 → H.length = 2 → RS.ok ⟨2, R, H⟩ := fun R H h0 h1 h2 => ⟨show (1 : Int) ≤ 2 by decide, show (2 : Int) ≤ 64 by decide, h0, show R ≤ 1000000 by omega, by show (H.length : Int) = 2; omega⟩
  refine (T (RS.new 2) 1 hh6.r (RS.new_ok w2) (by decide)).use ?_
  have t1 : (RS.new 2).take 1 = ⟨2, 0, [false, true]⟩ := by rfl
  have g1 : (RS.new 2).got 1 = [] := by rfl
  rw [t1, g1]
  rintro r17 w7 ⟨e17, r7, s7, G17, o17, -⟩
  have hh7 := hh6.stepR r7 s7
  have l17 := (o17.rd ci1 (by decide)).len
  refine (T _ 0 hh7.r (okR _ _ (by decide) (by decide) rfl) (by decide)).use ?_
  have t2 : RS.take ⟨2, 0, [false, true]⟩ 0 = ⟨2, 2, [false, false]⟩ := by rfl
  have g2 : RS.got ⟨2, 0, [false, true]⟩ 0 = [0, 1] := by rfl
  rw [t2, g2]
  rintro r18 w8 ⟨e18, r8, s8, G18, o18, f18⟩
  have hh8 := hh7.stepR r8 s8
  have hGl : ∀ {w' : World}, w7.heap.size ≤ w'.heap.size → ∀ b, G b → b < w7.heap.size := fun _ b e => hh7.r.lt b e
  have d18 : ∀ b, G18 b → ¬ G b := fun b e1 e2 => by
    have := (f18 b e1).1
    have := hh7.r.lt b e2
    omega
  refine (T _ 1 hh8.r (okR _ _ (by decide) (by decide) rfl) (by decide)).use ?_
  have t3 : RS.take ⟨2, 2, [false, false]⟩ 1 = ⟨2, 2, [false, false]⟩ := by rfl
  have g3 : RS.got ⟨2, 2, [false, false]⟩ 1 = [] := by rfl
  rw [t3, g3]
  rintro r19 w9 ⟨e19, r9, s9, G19, o19, -⟩
  have hh9 := hh8.stepR r9 s9
  have l19 := (o19.rd ci1 (by decide)).len
  refine (T _ 2 hh9.r (okR _ _ (by decide) (by decide) rfl) (by decide)).use ?_
  have t4 : RS.take ⟨2, 2, [false, false]⟩ 2 = ⟨2, 3, [false, false]⟩ := by rfl
  have g4 : RS.got ⟨2, 2, [false, false]⟩ 2 = [2] := by rfl
  rw [t4, g4]
  rintro r20 w10 ⟨e20, r10, s10, G20, o20, f20⟩
  have hh10 := hh9.stepR r10 s10
  refine nwL fun b21 w11 hb21 q11 _ _ _ => ?_
  have p16 : OwnF w11 G16 3 1 r16 ([0, 1].flatMap ci) := ((((o16.keep s7.only d16).keep s8.only d16).keep s9.only d16).keep s10.only d16).keepQ q11
  have p18 : OwnF w11 G18 3 1 r18.1 ([0, 1].flatMap ci) := ((o18.keep s9.only d18).keep s10.only d18).keepQ q11
  have p20 := o20.keepQ q11
  have ho11 : IsR w11 H ob (RS.new 2) := ((((ho6.keep s7.only fun b e => (hHd b e).2).keep s8.only fun b e => (hHd b e).2).keep s9.only fun b e => (hHd b e).2).keep s10.only fun b e => (hHd b e).2).keepQ q11
  have hh11 := hh10.quiet q11
  refine (ints_c w11 r16 _ _ [0, 1] (p16.rd ci1 (by decide)) (rdI hb21 rfl rfl) (by decide)).use ?_
  rintro r22 w12 ⟨rfl, q12⟩
  rw [e17, e18, e19, e20, l17, l19]
  refine jn.mk (fun c w' => c = true ∧ Quiet w12 w') ⟨fun _ => nwL fun b29 w13 hb29 q13 _ _ _ => (ints_c w13 _ _ _ [0, 1] (((p18.keepQ q12).keepQ q13).rd ci1 (by decide)) (rdI hb29 rfl rfl) (by decide)).use ?_, fun hc => absurd hc (by decide)⟩ ?_
  · rintro r w14 ⟨rfl, q⟩
    exact ⟨by decide, q13.tr q⟩
  rintro c w15 ⟨rfl, q15⟩
  refine jn.mk (fun c w' => c = true ∧ Quiet w15 w') ⟨fun _ => nwL fun b29 w13 hb29 q13 _ _ _ => (ints_c w13 _ _ _ [2] ((((p20.keepQ q12).keepQ q15).keepQ q13).rd ci1 (by decide)) (rdI hb29 rfl rfl) (by decide)).use ?_, fun hc => absurd hc (by decide)⟩ ?_
  · rintro r w14 ⟨rfl, q⟩
    exact ⟨by decide, q13.tr q⟩
  rintro c w18 ⟨rfl, q18⟩
  have qq := (q12.tr q15).tr q18
  have hh18 := hh11.quiet qq
  have ho18 := ho11.keepQ qq
  refine (ack_c w18 F sb _ 2 hh18.s (ok3 0 (by decide) (by decide))).use ?_
  have a1 : SS.ack ⟨2, 3, 0⟩ 2 = ⟨2, 3, 2⟩ := by rfl
  have a2 : SS.err ⟨2, 3, 0⟩ 2 = 0 := by rfl
  rw [a1, a2]
  rintro r45 w19 ⟨rfl, s19, st19⟩
  have hh19 := hh18.stepS s19 st19
  have ho19 := ho18.keep st19.only fun b e => (hHd b e).1
  refine (frames_c w19 F sb _ hh19.s (ok3 2 (by decide) (by decide))).use ?_
  have fr2 : SS.frames ⟨2, 3, 2⟩ = [2] := by rfl
  rw [fr2]
  rintro r46 w20 ⟨G46, o46, f46⟩
  have d46 : ∀ b, G46 b → ¬ F b ∧ ¬ H b := fun b e1 => by
    have := (f46.b b e1).1
    refine ⟨fun e2 => ?_, fun e2 => ?_⟩
    · have := hh19.s.lt b e2
      omega
    · have := ho19.lt b e2
      omega
  have hh20 := hh19.quiet f46.q
  have ho20 := ho19.keepQ f46.q
  refine (ack_c w20 F sb _ 1 hh20.s (ok3 2 (by decide) (by decide))).use ?_
  have a3 : SS.ack ⟨2, 3, 2⟩ 1 = ⟨2, 3, 2⟩ := by rfl
  have a4 : SS.err ⟨2, 3, 2⟩ 1 = 0 := by rfl
  rw [a3, a4]
  rintro r47 w21 ⟨rfl, s21, st21⟩
  have hh21 := hh20.stepS s21 st21
  have ho21 := ho20.keep st21.only fun b e => (hHd b e).1
  have o46' := o46.keep st21.only fun b e => (d46 b e).1
  refine (take_c w21 H ob _ 9 ho21 (RS.new_ok w2) (by decide)).use ?_
  have t5 : (RS.new 2).take 9 = RS.new 2 := by rfl
  have g5 : (RS.new 2).got 9 = [] := by rfl
  rw [t5, g5]
  rintro r48 w22 ⟨e48, r22, s22, G48, o48, -⟩
  have l48 := (o48.rd ci1 (by decide)).len
  have hs22 := hh21.s.keep s22.only fun b e1 e2 => (hHd b e2).1 e1
  have bl22 : Quiet w w22 := by
    have hge : ∀ b, H b → w.heap.size ≤ b := fun b e => by
      have := (hH.b b e).1
      have := q2.size
      have := q1.size
      omega
    have hbl := hh21.o.bl
    refine ⟨s22.only.os.trans hbl.os, s22.only.tape.trans hbl.tape, s22.only.output.trans hbl.output, Nat.le_trans hbl.size s22.only.size, fun k hk _ => ?_⟩
    rw [s22.only.block k (Nat.lt_of_lt_of_le hk hbl.size) (fun e => by have := hge k e; omega)]
    exact hbl.block k hk
  have o46'' := o46'.keep s22.only fun b e => (d46 b e).2
  refine jn.mk (fun c w' => c = true ∧ Quiet w22 w') ⟨fun _ => nwL fun b29 w13 hb29 q13 _ _ _ => (ints_c w13 _ _ _ [2] ((o46''.keepQ q13).rd ci1 (by decide)) (rdI hb29 rfl rfl) (by decide)).use ?_, fun hc => absurd hc (by decide)⟩ ?_
  · rintro r w14 ⟨rfl, q⟩
    exact ⟨by decide, q13.tr q⟩
  rintro c w25 ⟨rfl, q25⟩
  have hs25 := hs22.keepQ q25
  refine jn.mk (fun c w' => c = true ∧ Quiet w22 w') ⟨fun _ => (left_c w25 F sb _ hs25 (ok3 2 (by decide) (by decide))).use ?_, fun hc => absurd hc (by decide)⟩ ?_
  · rintro r w26 ⟨rfl, q⟩
    exact ⟨by decide, q25.tr q⟩
  rintro c w27 ⟨rfl, q27⟩
  have hFq : ∀ {w' w'' : World}, Quiet w w' → Stp F w' F w'' → Quiet w w'' := fun q st => by
    have hge : ∀ b, F b → w.heap.size ≤ b := fun b e => (hF.b b e).1
    refine ⟨st.only.os.trans q.os, st.only.tape.trans q.tape, st.only.output.trans q.output, Nat.le_trans q.size st.only.size, fun k hk _ => ?_⟩
    rw [st.only.block k (Nat.lt_of_lt_of_le hk q.size) (fun e => by have := hge k e; omega)]
    exact q.block k hk id
  refine jn.mk (fun c w' => c = true ∧ IsS w' F sb ⟨2, 3, 2⟩ ∧ Quiet w w') ⟨fun _ => (ack_c w27 F sb _ 4 (hs22.keepQ q27) (ok3 2 (by decide) (by decide))).use ?_, fun hc => absurd hc (by decide)⟩ ?_
  · have a5 : SS.ack ⟨2, 3, 2⟩ 4 = ⟨2, 3, 2⟩ := by rfl
    have a6 : SS.err ⟨2, 3, 2⟩ 4 = 1 := by rfl
    rw [a5, a6]
    rintro r w28 ⟨rfl, h, st⟩
    exact ⟨by decide, h, hFq (bl22.tr q27) st⟩
  rintro c w29 ⟨rfl, hs29, q29⟩
  refine jn.mk (fun c w' => c = true ∧ Quiet w w') ⟨fun _ => (ack_c w29 F sb _ (-1) hs29 (ok3 2 (by decide) (by decide))).use ?_, fun hc => absurd hc (by decide)⟩ ?_
  · have a6 : SS.err ⟨2, 3, 2⟩ (-1) = 1 := by rfl
    rw [a6]
    rintro r w28 ⟨rfl, h, st⟩
    exact ⟨by decide, hFq q29 st⟩
  rintro c w31 ⟨rfl, q31⟩
  refine ⟨?_, q31⟩
  rw [l48, e48]
  decide
end Go.Proofs.Ytaogjbmgobfdoaa
