import Derived.Test.YtgbhghoppjfofaaGreatRb
import Derived.Test.YtgbhghoppjfofaaGreatAl
namespace Go.Proofs.YtgbhghoppjfofaaGreat
open Go.Dec Go.RowKit Go.Top
set_option maxHeartbeats 2000000
set_option maxRecDepth 10000

theorem apBo : appOK Tryz.prog 22 4 1 1 = true := by kernel_rfl
/-- a row of n flags: which numbers have theirs set -/
def IsA (A : List Bool) (n : Nat) (P : Int → Prop) : Prop := A.length = n ∧ ∀ k : Nat, k < n → (A[k]? = some true ↔ P k)
theorem IsA.rep (n : Nat) : IsA (List.replicate n false) n fun _ => False := ⟨by simp, fun k hk => by simp [List.getElem?_replicate]⟩
theorem IsA.congr {A : List Bool} {n : Nat} {P Q : Int → Prop} (h : IsA A n P) (e : ∀ x, P x ↔ Q x) : IsA A n Q := ⟨h.1, fun k hk => (h.2 k hk).trans (e k)⟩
theorem IsA.set {A : List Bool} {n : Nat} {P : Int → Prop} (h : IsA A n P) {i : Int} (h0 : 0 ≤ i) (h1 : i < n) : IsA (A.set i.toNat true) n fun x => P x ∨ i = x := by
  refine ⟨by rw [List.length_set]; exact h.1, fun k hk => ?_⟩
  rw [List.getElem?_set]
  by_cases e : i.toNat = k
  · rw [if_pos e, if_pos (by rw [h.1]; omega)]
    exact ⟨fun _ => .inr (by omega), fun _ => rfl⟩
  · rw [if_neg e, h.2 k hk]
    exact ⟨.inl, fun e' => e'.elim id fun e' => by omega⟩
theorem IsA.get {A : List Bool} {n : Nat} {P : Int → Prop} (h : IsA A n P) {i : Int} (h0 : 0 ≤ i) (h1 : i < n) : ∃ b, A[i.toNat]? = some b ∧ (b = true ↔ P i) := by
  obtain ⟨b, hb⟩ := getq (l := A) h0 (by rw [h.1]; exact h1)
  refine ⟨b, hb, ?_⟩
  have := h.2 i.toNat (by omega)
  rw [show ((i.toNat : Nat) : Int) = i by omega, hb] at this
  exact ⟨fun e => this.1 (by rw [e]), fun e => by simpa using this.2 e⟩
/-- what is reached by one bridge more, of the first j open ones -/
def Nx (bs : List Br) (op : List Nat) (k : Nat) (home : Int) (j : Nat) (x : Int) : Prop := ∃ i ∈ op.take j, ∃ b, bs[i]? = some b ∧ Walk bs op k home b.src ∧ b.dst = x
theorem Nx.zero {bs : List Br} {op : List Nat} {k : Nat} {home x : Int} : ¬ Nx bs op k home 0 x := fun ⟨i, hi, _⟩ => by simp at hi
theorem Nx.succ {bs : List Br} {op : List Nat} {k j i : Nat} {home : Int} {b : Br} (hi : op[j]? = some i) (hb : bs[i]? = some b) (x : Int) : Nx bs op k home (j + 1) x ↔ Nx bs op k home j x ∨ (Walk bs op k home b.src ∧ b.dst = x) := by
  unfold Nx
  rw [take_next hi]
  constructor
  · rintro ⟨i', hi', b', hb', h⟩
    rcases List.mem_append.1 hi' with hi' | hi'
    · exact .inl ⟨i', hi', b', hb', h⟩
    · simp at hi'
      subst hi'
      rw [hb] at hb'
      injection hb' with hb'
      subst hb'
      exact .inr h
  · rintro (⟨i', hi', h⟩ | h)
    · exact ⟨i', List.mem_append_left _ hi', h⟩
    · exact ⟨i, by simp, b, hb, h⟩
theorem Nx.all {bs : List Br} {op : List Nat} {k j : Nat} {home : Int} (hj : op.length ≤ j) (x : Int) : Nx bs op k home j x ↔ Walk bs op (k + 1) home x := by
  unfold Nx
  rw [List.take_of_length_le hj]
  constructor
  · rintro ⟨i, hi, b, hb, hw, rfl⟩
    exact .succ hw ⟨i, hi, b, hb, rfl, rfl⟩
  · intro h
    cases h with
    | succ hw e =>
      obtain ⟨i, hi, b, hb, rfl, rfl⟩ := e
      exact ⟨i, hi, b, hb, hw, rfl⟩
theorem netP_in {x : Int} {i : Int} (h0 : 0 ≤ x) (h1 : x < 12) (i0 : 0 ≤ i) (i1 : i < 100) : netP (x + 12 * i) = x := by
  unfold netP
  rw [if_neg (by omega), Int.tmod_eq_emod_of_nonneg (by omega)]
  omega
theorem match_one {k c : Cp} {near : Int} (h : may k c near) : matchP [k] c near = (0, true) := by
  have : lastOf [k] c near (fun _ => false) = 0 := by
    unfold lastOf
    exact lastP_is (i := 0) (by simp) (by simp [okP, h]) fun j h1 h2 => by simp at h2; omega
  unfold matchP
  rw [this]
  rfl
theorem rings_c (w : World) (s : Sl) (bs : List Br) (nets fr grp : Int) (h : Rd w br 3 s bs) (c0 : 0 ≤ fr) (c1 : fr ≤ 255) :
    callC Tryz.prog 4 #[s.v, .int .i64 nets, .int .u8 fr, .int .i64 grp] (fun (r : Bool) => .bool r) w fun r w' => r = true ∧ Quiet w w' := by
  have hsl := h.len
  refine D4 _ _ _ _ w _ ?_
  unfold F4
  rw [w64 (x := fr) (by omega) (by omega)]
  refine (alive_c w).use ?_
  rintro r9 w1 ⟨rfl, q1⟩
  refine jn.mk (fun c w' => (c = false → bs.length ≤ 20 ∧ VB bs nets) ∧ Quiet w w') ⟨fun _ => ⟨fun e => (by cases e), q1⟩, fun g => ?_⟩ ?_
  · have hl : bs.length ≤ 20 := by have := of_decide_eq_false g; omega
    refine (rright_c w1 s bs nets (h.keepQ q1) hl).use ?_
    rintro r w2 ⟨hr, q2⟩
    exact ⟨fun e => ⟨hl, hr (by simpa using e)⟩, q1.tr q2⟩
  rintro c w3 ⟨hc, q3⟩
  refine ⟨fun _ => ⟨rfl, q3⟩, fun g => ?_⟩
  obtain ⟨hl, hv⟩ := hc g
  clear hc g
  refine (cut_c w3 s bs nets (h.keepQ q3) hv).use ?_
  rintro ⟨r15, r15b, e15⟩ w4 ⟨hcut, q4⟩
  dsimp only at hcut ⊢
  have q04 := q3.tr q4
  refine ⟨fun ge => ?_, fun ge => ?_⟩
  · rcases hcut with ⟨e, _⟩ | ⟨e, _⟩
    · subst e
      exact ⟨rfl, q04⟩
    · subst e
      simp at ge
  have he : e15 = 0 := nt ge
  rcases hcut with ⟨e, _⟩ | ⟨_, hno, Fc, oc, fc⟩
  · omega
  clear ge he
  have hv' := hv
  obtain ⟨⟨n1, n2⟩, hbl, hbr⟩ := hv'
  refine ⟨by omega, ?_⟩
  have hm0 := Int.tmod_nonneg nets c0
  have hm1 := Int.tmod_lt_of_pos fr (show 0 < nets by omega)
  generalize fr.tmod nets = home at *
  have hac : Acyc bs (opn (ownb bs (forg bs bs.length) bs.length).2 bs.length) := (ownb_acyc (forg_acyc bs.length fun k b _ hb ho => hno k b hb ho) bs.length).mono fun i hi => open_mem.2 (opn_mem.1 hi)
  have hfl : ∀ i ∈ forg bs bs.length, i < bs.length := fun i hi => (forg_mem.1 hi).1
  have hctl := (ownb_lt (op0 := forg bs bs.length) hfl bs.length).2.2
  generalize (ownb bs (forg bs bs.length) bs.length).2 = ct at *
  clear hno hfl
  obtain ⟨n, rfl⟩ := Int.eq_ofNat_of_zero_le (show 0 ≤ nets by omega)
  refine nwL fun b20 w5 hb20 q5 g5 _ l5 => ?_
  have q05 := q04.tr q5
  have hkn : Rd w5 cp 5 (⟨some ⟨b20, 0, none⟩, 1, 1⟩ : Sl) [⟨home, grp, 0, -1, -1⟩] := by
    refine ⟨rfl, fun i u hu => ⟨_, rfl, fun j v hv => ?_⟩⟩
    rw [mk_add, mk_add, Blk.cell hb20]
    have := flat_at cp5 hu hv
    simpa [cp] using this
  have hs5 := h.keepQ q05
  have hc5 := (oc.keepQ q5).rd ci1 (by decide)
  clear hb20 oc fc
  refine rn_makeN (c := cbo) (x := false) apBo zvB rfl cbo1 (by unfold maxLen; omega) (by omega) fun r21 w6 F1 o1 hl1 f1 => ?_
  refine rn_makeN (c := cbo) (x := false) apBo zvB rfl cbo1 (by unfold maxLen; omega) (by omega) fun r22 w7 F2 o2 hl2 f2 => ?_
  have O6 : Objs w5 w6 (four F1 (fun _ => False) (fun _ => False) fun _ => False) := ((Objs.start w5).none4.new 0 f1).congr (four_upd 0 _)
  have O7 : Objs w5 w7 (four F1 F2 (fun _ => False) fun _ => False) := (O6.new 1 f2).congr (four_upd 1 _)
  refine (o1.keepQ f2.q).put (y := true) cbo1 hm0 (by simp; omega) (by decide) fun w8 o1 on8 s8 => ?_
  refine (o2.keep on8 O7.dj4.2.2.2.1).put (y := true) cbo1 hm0 (by simp; omega) (by decide) fun w9 o2 on9 s9 => ?_
  have O9 : Objs w5 w9 (four F1 F2 (fun _ => False) fun _ => False) := (O7.t0 ⟨on8, fun x e => .inl e⟩).t1 ⟨on9, fun x e => .inl e⟩
  have o1 := o1.keep on9 O7.dj4.1
  have q59 : Quiet w5 w9 := Quiet.ofBelow O9.bl
  refine (ropen_c w9 s r15 bs ct (hs5.keepQ q59) (hc5.keepQ q59) hbl (by omega)).use ?_
  rintro r27 w10 ⟨Fo, oo, fo⟩
  have O10 : Objs w5 w10 (four F1 F2 (fun _ => False) Fo) := (O9.new 3 fo).congr (four_upd 3 _)
  have o1 := o1.keepQ fo.q
  have o2 := o2.keepQ fo.q
  have hopl := opn_len ct bs.length
  have hopm : ∀ i ∈ opn ct bs.length, i < bs.length := fun i hi => (opn_mem.1 hi).1
  have hctl' : ct.length ≤ 1000 := by omega
  have hrounds := fun w => rounds_c w s r15 bs ct n home
  generalize opn ct bs.length = op at *
  have hA0 : IsA ((List.replicate n false).set home.toNat true) n fun x => home = x := ((IsA.rep n).set hm0 hm1).congr fun x => by simp
  generalize (List.replicate n false).set home.toNat true = A0 at *
  clear O6 O7 O9 f1 f2 fo on8 on9 s8 s9 hl1 hl2
  refine ⟨fun c w' => 1 ≤ c.2 ∧ c.2 ≤ n + 1 ∧ ∃ (A H : List Bool) (F : Nat → Prop), OwnF w' F 4 1 c.1 (A.flatMap cbo) ∧ IsA A n (fun x => Walk bs op (c.2.toNat - 1) home x) ∧ OwnF w' F2 4 1 r22 (H.flatMap cbo) ∧ IsA H n (fun x => ∃ k, k < c.2.toNat ∧ Walk bs op k home x) ∧
      OwnF w' Fo 3 1 r27 ((casts op).flatMap ci) ∧ Objs w5 w' (four F F2 (fun _ => False) Fo), fun c _ => ((n : Int) + 1 - c.2).toNat,
    ⟨by (try dsimp only); omega, by (try dsimp only); omega, A0, A0, F1, o1, hA0.congr fun x => ⟨fun e => by subst e; exact .zero _, fun e => by cases e; rfl⟩, o2, hA0.congr fun x => ⟨fun e => by subst e; exact ⟨0, Nat.zero_lt_one, .zero _⟩, fun ⟨k, hk, e⟩ => ?_⟩, oo, O10⟩, ?_⟩
  · have : k = 0 := by simpa using hk
    subst this
    cases e
    rfl
  clear O10 oo o1 o2 hA0
  rintro ⟨at_, st⟩ w11 ⟨st0, st1, A, H, F, oA, hA, oH, hH, oo, O⟩
  dsimp only at st0 st1 oA hA hH ⊢
  have q511 : Quiet w5 w11 := Quiet.ofBelow O.bl
  refine ⟨fun hst => ?_, fun hst => ?_⟩
  · have hst := of_decide_eq_true hst
    obtain ⟨k, rfl⟩ : ∃ k : Nat, st = (k : Int) + 1 := ⟨(st - 1).toNat, by omega⟩
    rw [show ((k : Int) + 1).toNat - 1 = k by omega] at hA
    rw [show ((k : Int) + 1).toNat = k + 1 by omega] at hH
    refine rn_makeN (c := cbo) (x := false) apBo zvB rfl cbo1 (by unfold maxLen; omega) (by omega) fun r30 w12 N o12 hl12 f12 => ?_
    have O12 : Objs w5 w12 (four F F2 N Fo) := (O.new 2 f12).congr (four_upd 2 _)
    refine ⟨fun j w' => 0 ≤ j ∧ j ≤ op.length ∧ ∃ B H : List Bool, OwnF w' N 4 1 r30 (B.flatMap cbo) ∧ IsA B n (Nx bs op k home j.toNat) ∧ OwnF w' F2 4 1 r22 (H.flatMap cbo) ∧ IsA H n (fun x => (∃ i, i < k + 1 ∧ Walk bs op i home x) ∨ Nx bs op k home j.toNat x) ∧
        OwnF w' F 4 1 at_ (A.flatMap cbo) ∧ OwnF w' Fo 3 1 r27 ((casts op).flatMap ci) ∧ Objs w5 w' (four F F2 N Fo), fun j _ => ((op.length : Int) - j).toNat,
      ⟨Int.le_refl _, by omega, _, H, o12, (IsA.rep n).congr fun x => ⟨fun e => e.elim, fun e => Nx.zero e⟩, oH.keepQ f12.q, hH.congr fun x => ⟨.inl, fun e => e.elim id fun e => (Nx.zero e).elim⟩, oA.keepQ f12.q, oo.keepQ f12.q, O12⟩, ?_⟩
    clear O12 o12 hH oH oA oo O hl12 f12
    rintro j w13 ⟨j0, j1, B, H, oB, hB, oH, hH, oA, oo, O⟩
    have q513 : Quiet w5 w13 := Quiet.ofBelow O.bl
    have hO := oo.rd ci1 (by decide)
    have hOl := hO.len
    rw [casts_len] at hOl
    refine ⟨fun hj => ?_, fun hj => ?_⟩
    · have hlt : j < op.length := by have := of_decide_eq_true hj; omega
      obtain ⟨i, hi⟩ := getq j0 hlt
      have hiop := List.mem_of_getElem? hi
      have hil := hopm i hiop
      obtain ⟨b, hb⟩ : ∃ b, bs[i]? = some b := ⟨_, List.getElem?_eq_getElem hil⟩
      have hbv := hbr b (List.mem_of_getElem? hb)
      have hbi : bs[((i : Int)).toNat]? = some b := by simpa using hb
      have hnx := Nx.succ (k := k) (home := home) hi hb
      refine jn.mk (fun (_ : Unit) w' => ∃ B H : List Bool, OwnF w' N 4 1 r30 (B.flatMap cbo) ∧ IsA B n (Nx bs op k home (j.toNat + 1)) ∧ OwnF w' F2 4 1 r22 (H.flatMap cbo) ∧ IsA H n (fun x => (∃ i, i < k + 1 ∧ Walk bs op i home x) ∨ Nx bs op k home (j.toNat + 1) x) ∧
        OwnF w' F 4 1 at_ (A.flatMap cbo) ∧ OwnF w' Fo 3 1 r27 ((casts op).flatMap ci) ∧ Objs w5 w' (four F F2 N Fo)) ?_ ?_
      · refine hO.ixx j0 (x := (i : Int)) (casts_at hi) fun p hp _ => hp.ld0 rfl ((hs5.keepQ q513).ixx (by omega) hbi fun p2 hp2 _ => br_ld hp2 (br_box (x := b) fun bb w16 hbb q16 gb lb => ?_))
        have A16 := hbb.at
        have oA16 := oA.keepQ q16
        have O16 := O.quiet q16
        obtain ⟨a, ha, haw⟩ := hA.get hbv.1.1 hbv.1.2
        refine A16.ld (j := 0) rfl ((oA16.rd cbo1 (by decide)).ixx hbv.1.1 ha fun p3 hp3 _ => hp3.ld0 rfl ⟨fun g => ?_, fun g => ?_⟩)
        · have hnw : ¬ Walk bs op k home b.src := fun e => by
            rw [haw.2 e] at g
            cases g
          have hnx' : ∀ x, Nx bs op k home j.toNat x ↔ Nx bs op k home (j.toNat + 1) x := fun x => by
            rw [hnx x]
            exact ⟨.inl, fun e => e.elim id fun e => (hnw e.1).elim⟩
          exact ⟨B, H, oB.keepQ q16, hB.congr hnx', oH.keepQ q16, hH.congr fun x => by rw [hnx' x], oA16, oo.keepQ q16, O16⟩
        · have hw : Walk bs op k home b.src := haw.1 (by simpa using g)
          have hed : Go.Top.Edge bs op b.src b.dst := ⟨i, hiop, b, hb, rfl, rfl⟩
          have hne : b.dst ≠ home := fun e => hac _ _ hed (e ▸ hw.rch)
          refine A16.ld (j := 1) rfl ?_
          rw [w64 (x := 1 + j) (by omega) (by omega), w64 (x := 12 * (1 + j)) (by omega) (by omega), w64 (x := b.dst + 12 * (1 + j)) (by omega) (by omega)]
          refine box5 (c := ⟨b.dst + 12 * (1 + j), grp, (k : Int) + 1, -1, -1⟩) fun b48 w18 hb48 q18 _ _ => ?_
          have q1618 := q16.tr q18
          have hd : netP (b.dst + 12 * (1 + j)) = b.dst := netP_in hbv.2.1 (by omega) (by omega) (by omega)
          have hh : netP home = home := by
            have := netP_in (x := home) (i := 0) hm0 (by omega) (by decide) (by decide)
            simpa using this
          refine ld5 hb48.at ((match_c w18 _ [⟨home, grp, 0, -1, -1⟩] ⟨b.dst + 12 * (1 + j), grp, (k : Int) + 1, -1, -1⟩ n (hkn.keepQ (q513.tr q1618)) (by simp) (fun x hx => by simp at hx; subst hx; unfold i64; dsimp only; omega) (by unfold i64; (try dsimp only); omega) (by omega)).use ?_)
          have hmay : may (⟨home, grp, 0, -1, -1⟩ : Cp) ⟨b.dst + 12 * (1 + j), grp, (k : Int) + 1, -1, -1⟩ (n : Int) := ⟨by omega, ⟨rfl, rfl, rfl⟩, by (try dsimp only); rw [hd, hh]; exact fun e => hne e.symm, by (try dsimp only); omega, by (try dsimp only); omega⟩
          rw [match_one hmay]
          rintro r55 w19 ⟨rfl, q19⟩
          refine jn.mk (fun c w' => c = false ∧ Quiet w19 w') ?_ ?_
          · show Go.Dec.tk _ _
            unfold Go.Dec.tk
            have qd : Quiet w19 w19.drew := Only.drew _ _
            have B48 := (hb48.keepQ (q19.tr qd)).at
            have B41 := (hbb.keepQ ((q18.tr q19).tr qd)).at
            refine B48.ld (j := 0) rfl (B41.ld (j := 1) rfl ((net_c _ _).use ?_))
            rintro r60 w21 ⟨rfl, rfl⟩
            refine ⟨B41.cj (j := 1) rfl, fun e => ?_, fun _ => ⟨fun e => (by cases e), fun _ => ⟨rfl, qd⟩⟩⟩
            (try dsimp only at e)
            rw [hd] at e
            simp at e
          rintro c w22 ⟨rfl, q22⟩
          refine ⟨fun e => (by cases e), fun _ => ?_⟩
          have q1622 : Quiet w16 w22 := (q18.tr q19).tr q22
          have q1322 := q16.tr q1622
          have O22 := O.quiet q1322
          have hbb22 := hbb.keepQ q1622
          have hbN : ¬ N bb := fun e => by
            have := O.sep.lt 2 bb e
            omega
          refine hbb22.at.ld (j := 1) rfl ((oB.keepQ q1322).put (y := true) cbo1 hbv.2.1 (by rw [hB.1]; omega) (by decide) fun w23 oB23 on23 s23 => ?_)
          have dj := O22.dj4
          have O23 := O22.t2 ⟨on23, fun x e => .inl e⟩
          have hbb23 : IsBr w23 bb b := Blk.keep hbb22 on23 hbN
          refine hbb23.at.ld (j := 1) rfl (((oH.keepQ q1322).keep on23 dj.2.2.1).put (y := true) cbo1 hbv.2.1 (by rw [hH.1]; omega) (by decide) fun w24 oH24 on24 s24 => ?_)
          have dj3 := O22.sep
          refine ⟨_, _, oB23.keep on24 dj.2.2.2.2.2, (hB.set hbv.2.1 hbv.2.2).congr fun x => ?_, oH24, (hH.set hbv.2.1 hbv.2.2).congr fun x => ?_, ((oA.keepQ q1322).keep on23 dj.2.1).keep on24 dj.1, ((oo.keepQ q1322).keep on23 fun x e e' => dj3.ne (i := 3) (j := 2) (by decide) x e e').keep on24 fun x e e' => dj3.ne (i := 3) (j := 1) (by decide) x e e', O23.t1 ⟨on24, fun x e => .inl e⟩⟩
          · rw [hnx x]
            exact ⟨fun e => e.imp id fun e => ⟨hw, e⟩, fun e => e.imp id And.right⟩
          · rw [hnx x]
            constructor
            · rintro ((e | e) | e)
              · exact .inl e
              · exact .inr (.inl e)
              · exact .inr (.inr ⟨hw, e⟩)
            · rintro (e | e | e)
              · exact .inl (.inl e)
              · exact .inl (.inr e)
              · exact .inr e.2
      rintro _ w14 ⟨B2, H2, k1, k2, k3, k4, k5⟩
      rw [w64 (by omega) (by omega)]
      refine ⟨⟨by omega, by omega, B2, H2, k1, ?_, k3, ?_, k5⟩, by (try dsimp only); omega⟩
      · rw [toNat_succ j0]
        exact k2
      · rw [toNat_succ j0]
        exact k4
    · have hge : op.length ≤ j.toNat := by have := of_decide_eq_false hj; omega
      have hall := Nx.all (bs := bs) (k := k) (home := home) hge
      rw [w64 (by omega) (by omega)]
      refine ⟨⟨by (try dsimp only); omega, by (try dsimp only); omega, B, H, N, oB, ?_, oH, ?_, oo, ?_⟩, by (try dsimp only); omega⟩
      · (try dsimp only)
        rw [show ((k : Int) + 1 + 1).toNat - 1 = k + 1 by omega]
        exact hB.congr hall
      · (try dsimp only)
        rw [show ((k : Int) + 1 + 1).toNat = k + 2 by omega]
        refine hH.congr fun x => ?_
        rw [hall x]
        constructor
        · rintro (⟨i, hi, e⟩ | e)
          · exact ⟨i, by omega, e⟩
          · exact ⟨k + 1, by omega, e⟩
        · rintro ⟨i, hi, e⟩
          by_cases h1 : i = k + 1
          · subst h1
            exact .inr e
          · exact .inl ⟨i, by omega, e⟩
      · refine ((O.sub (fun i => if i = 0 then 2 else if i = 2 then 0 else i) fun a b e => ?_).drop 2).congr fun i x hx => ?_
        · (try dsimp only at e)
          split at e <;> split at e <;> (try split at e) <;> (try split at e) <;> omega
        · unfold four at hx
          unfold updO four
          match i, hx with
          | 0, hx => simpa using hx
          | 1, hx => simpa using hx
          | 2, hx => simp at hx
          | 3, hx => simpa using hx
          | i + 4, hx => simp at hx
  have hst : st = (n : Int) + 1 := by have := of_decide_eq_false hst; omega
  subst hst
  rw [show ((n : Int) + 1).toNat - 1 = n by omega] at hA
  rw [show ((n : Int) + 1).toNat = n + 1 by omega] at hH
  have hwl : ∀ {k x}, Walk bs op k home x → k < n := fun hw => hw.len hac (fun b hb => (hbr b hb).2) ⟨hm0, hm1⟩
  have hrch : ∀ x, (∃ k, k < n + 1 ∧ Walk bs op k home x) ↔ Rch bs op home x := fun x => ⟨fun ⟨_, _, e⟩ => e.rch, fun e => by
    obtain ⟨k, hk⟩ := e.walk
    have := hwl hk
    exact ⟨k, by omega, hk⟩⟩
  refine (hrounds w11 (hs5.keepQ q511) (hc5.keepQ q511) hv hctl' ⟨hm0, hm1⟩).use ?_
  rintro r71 w25 ⟨l, hr71, hmem, hll, q25⟩
  have q525 := q511.tr q25
  refine ⟨fun x w' => 0 ≤ x ∧ x ≤ n ∧ Quiet w25 w', fun x _ => ((n : Int) - x).toNat, ⟨Int.le_refl _, by omega, Only.refl _ _⟩, ?_⟩
  rintro x w26 ⟨x0, x1, q26⟩
  have q1126 := q25.tr q26
  refine ⟨fun hx => ?_, fun _ => ⟨rfl, q05.tr (q525.tr q26)⟩⟩
  have hx := of_decide_eq_true hx
  obtain ⟨a, ha, haw⟩ := hA.get x0 hx
  obtain ⟨e, he, hew⟩ := hH.get x0 hx
  have hae : a = false := by
    cases a with
    | false => rfl
    | true => exact absurd (hwl (haw.1 rfl)) (Nat.lt_irrefl _)
  subst hae
  have hem : e = decide (x ∈ l) := by
    rw [Bool.eq_iff_iff, decide_eq_true_iff, hew, hrch x, hmem x]
  refine jn.mk (fun c w' => c = false ∧ Quiet w26 w') ?_ ?_
  · show Go.Dec.tk _ _
    unfold Go.Dec.tk
    have qd : Quiet w26 w26.drew := Only.drew _ _
    refine ((oA.keepQ (q1126.tr qd)).rd cbo1 (by decide)).ixx x0 ha fun p hp _ => hp.ld0 rfl ⟨fun e => (by cases e), fun _ => ((oH.keepQ (q1126.tr qd)).rd cbo1 (by decide)).ixx x0 he fun p2 hp2 _ => hp2.ld0 rfl ((rhasI_c _ r71 l x (hr71.keepQ (q26.tr qd)) (by omega)).use ?_)⟩
    rintro r w28 ⟨rfl, rfl⟩
    refine ⟨hp2.cell0, hp.cell0, ?_, qd⟩
    rw [hem]
    simp
  rintro c w29 ⟨rfl, q29⟩
  refine ⟨fun e => (by cases e), fun _ => ?_⟩
  rw [w64 (by omega) (by omega)]
  exact ⟨⟨by omega, by omega, q26.tr q29⟩, by (try dsimp only); omega⟩
theorem rings (W : World) (u : Sl) (bs : List Br) (hu : Rd W br 3 u bs) (_ : ∀ ad, u.a = some ad → 0 < bs.length → ad.block < W.heap.size) (_ : bs.length ≤ maxLen)
    (p1 : Int) (_ : -9223372036854775808 ≤ p1) (_ : p1 ≤ 9223372036854775807) (p2 : Int) (c0 : 0 ≤ p2) (c1 : p2 ≤ 255) (p3 : Int) (_ : -9223372036854775808 ≤ p3) (_ : p3 ≤ 9223372036854775807) :
    callC Tryz.prog 4 #[u.v, .int .i64 p1, .int .u8 p2, .int .i64 p3] (fun (r : Bool) => .bool r) W fun r w' => r = true ∧ Below W.heap.size W w' :=
  (rings_c W u bs p1 p2 p3 hu c0 c1).use fun _ _ h => ⟨h.1, bq h.2⟩
end Go.Proofs.YtgbhghoppjfofaaGreat
