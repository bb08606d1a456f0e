import Derived.Test.YtaogjbmgobfdoaaKt
namespace Go.Proofs.Ytaogjbmgobfdoaa
open Go.Dec Go.RowKit
set_option maxHeartbeats 400000

def cA (a : Int × Int) : List Value := [.int .i64 a.1, .int .i64 a.2]
theorem cA2 (a : Int × Int) : (cA a).length = 2 := rfl
theorem got_len {Q : RS} (f : Int) : ((Q.got f).length : Int) = (Q.take f).R - Q.R := by
  unfold RS.got RS.take
  split
  · simp
  · rw [seqI_len]
    show _ = Q.R + _ - Q.R
    omega
theorem got_get {Q : RS} {f : Int} {k : Nat} (h : k < (Q.got f).length) : (Q.got f)[k]? = some (Q.R + k) := by
  unfold RS.got at h ⊢
  split
  · rename_i ho
    rw [if_pos ho] at h
    simp at h
  · rename_i ho
    rw [if_neg ho, seqI_len] at h
    exact seqI_get h
theorem frames_mem {S : SS} (hk : S.ok) {f : Int} (h : f ∈ S.frames) : f < S.N ∧ f < S.B + S.W := by
  obtain ⟨k0, k1, k2, k3, k4⟩ := hk
  have := mem_seqI.1 h
  omega

structure Inv (W w : World) (F H : Nat → Prop) (sb rb : Nat) (frs aks : Sl) (sent next acked i : Int) : Prop where
  ex : ∃ (S : SS) (Q : RS) (Gf Ga : Nat → Prop) (fr ak : List Int), Lk S Q ∧ sent = S.N ∧ next = Q.R ∧ acked = S.B ∧ S.N ≤ i ∧ IsS w F sb S ∧ IsR w H rb Q ∧ OwnF w Gf 3 1 frs (fr.flatMap ci) ∧ OwnF w Ga 3 1 aks (ak.flatMap ci) ∧ Objs W w (four F H Gf Ga) ∧
    (∀ f ∈ fr, f < S.N ∧ f < S.B + S.W) ∧ fr.length ≤ 464 ∧ (∀ n ∈ ak, 0 ≤ n ∧ n ≤ Q.R) ∧ (ak.length : Int) ≤ i

theorem order (W : World) (n : Int) (_ : -9223372036854775808 ≤ n) (_ : n ≤ 9223372036854775807) (s : Sl) (l : List (Int × Int)) (hr : Rd W cA 2 s l) (hB : ∀ ad, s.a = some ad → 0 < l.length → ad.block < W.heap.size) (hl : l.length ≤ maxLen) :
    callC Try.prog 4 #[.int .i64 n, s.v] (fun (r : Bool) => .bool r) W fun r w' => r = true ∧ Below W.heap.size W w' := by
  have ha : Arg W cA 2 s l := ⟨hr, hB⟩
  have hsl := ha.len
  unfold maxLen at hl
  refine D4 _ _ W _ ?_
  unfold F4
  refine (small_c W).use ?_
  rintro r w1 ⟨rfl, q1⟩
  refine (news_c w1 n).use ?_
  rintro r2 w2 ⟨a1, a2, q2⟩
  refine (newr_c w2 n).use ?_
  rintro r3 w3 ⟨b1, b2, q3⟩
  have q13 := (q1.tr q2).tr q3
  by_cases hw : win n
  case neg =>
    rw [a2 hw, b2 hw]
    refine ⟨fun _ => ⟨?_, bq q13⟩, fun hc => absurd hc (by simp)⟩
    unfold win at hw
    have : n < 1 ∨ 64 < n := by omega
    rcases this with e | e <;> simp [e]
  obtain ⟨sb, F, rfl, hs, hF⟩ := a1 hw
  obtain ⟨rb, H, rfl, hR, hH⟩ := b1 hw
  have hw' := hw
  unfold win at hw'
  refine ⟨fun hc => ⟨?_, bq q13⟩, fun hc => ⟨fun hc => absurd hc (by simp), fun _ => ?_⟩⟩
  · have : (60 : Int) < s.len := by simp at hc; omega
    simp [this]
  have h60 : l.length ≤ 60 := by rw [hsl] at hc; simp at hc; omega
  have hO : Objs W w3 (four F H (fun _ => False) fun _ => False) := by
    have h0 := (Objs.none4 (Objs.start W)).quiet q1
    have h1 := (h0.new 0 hF).congr (four_upd (F := fun _ => False) (G := fun _ => False) (H := fun _ => False) (I := fun _ => False) 0 F)
    exact (h1.new 1 hH).congr (four_upd (F := F) (G := fun _ => False) (H := fun _ => False) (I := fun _ => False) 1 H)
  refine ⟨fun (c : Sl × Sl × Int × Int × Int × Int) w' => 0 ≤ c.2.2.2.2.2 ∧ c.2.2.2.2.2 ≤ l.length ∧ Inv W w' F H sb rb c.1 c.2.1 c.2.2.1 c.2.2.2.1 c.2.2.2.2.1 c.2.2.2.2.2, fun c _ => (l.length - c.2.2.2.2.2).toNat,
    ⟨by simp, by simp, ⟨⟨n, 0, 0⟩, RS.new n, _, _, [], [], Lk.start hw, rfl, rfl, rfl, Int.le_refl _, hs.keepQ q3, hR, OwnF.nil _ _ _ _, OwnF.nil _ _ _ _, hO, by simp, by simp, by simp, by simp⟩⟩, ?_⟩
  clear hs hR hO hF hH a1 a2 b1 b2 q13
  rintro ⟨frs, aks, sent, next, acked, i⟩ w4 ⟨i0, i1, ⟨S, Q, Gf, Ga, fr, ak, hL, rfl, rfl, rfl, hNi, hs, hR, oF, oA, hO, hfr, hfl, hak, hal⟩⟩
  dsimp only at i0 i1 hNi hal ⊢
  refine ⟨fun hi => ?_, fun hi => ⟨rfl, hO.bl⟩⟩
  have hlt : i < l.length := by simpa [hsl] using hi
  obtain ⟨⟨kind, num⟩, hx⟩ := getq i0 hlt
  have hk := hL.so
  have hq := hL.qo
  have hrN := hL.rN
  have hn1 := hk.n1
  have hb0 := hk.b0
  have hb1 := hk.b1
  have frl : frs.len = fr.length := (oF.rd ci1 (by decide)).len
  have akl : aks.len = ak.length := (oA.rd ci1 (by decide)).len
  -- nothing has happened
  have stay : ∀ w', Quiet w4 w' → Inv W w' F H sb rb frs aks S.N Q.R S.B (i + 1) := fun w' q =>
    ⟨S, Q, Gf, Ga, fr, ak, hL, rfl, rfl, rfl, by omega, hs.keepQ q, hR.keepQ q, oF.keepQ q, oA.keepQ q, hO.quiet q, hfr, hfl, hak, by omega⟩
  refine jn.mk (fun (c : Sl × Sl × Int × Int × Int) w' => Inv W w' F H sb rb c.1 c.2.1 c.2.2.1 c.2.2.2.1 c.2.2.2.2 (i + 1)) ?_ ?_
  · refine jn.mk (fun (c : Sl × Sl × Int × Int × Int) w' => Inv W w' F H sb rb c.1 c.2.1 c.2.2.1 c.2.2.2.1 c.2.2.2.2 (i + 1)) ?_ ?_
    · refine ha.ixx i0 hx fun p hat => (hat _ hO.bl).ld (j := 0) (x := kind) rfl ⟨fun hc => ?_, fun _ => ⟨fun hc => ?_, fun _ => ⟨fun hc => ?_, fun _ => ?_⟩⟩⟩
      · refine (send_c w4 F sb S hs hk).use ?_
        rintro r35 w7 ⟨rfl, hs1, st1⟩
        refine ⟨fun hc => absurd hc (by simp), fun _ => ?_⟩
        rw [w64 (by omega) (by omega)]
        refine ⟨S.send, Q, Gf, Ga, fr, ak, hL.send (by omega), rfl, rfl, rfl, ?_, hs1, hR.keep st1.only (hO.dj (i := 1) (j := 0) (by decide)), oF.keep st1.only (hO.dj (i := 2) (j := 0) (by decide)), oA.keep st1.only (hO.dj (i := 3) (j := 0) (by decide)), hO.same 0 st1, fun f hf => ?_, hfl, hak, by omega⟩
        · show S.N + 1 ≤ i + 1
          omega
        · have := hfr f hf
          exact ⟨by show f < S.N + 1; omega, this.2⟩
      · refine ⟨fun hc2 => ?_, fun _ => stay w4 (Only.refl _ _)⟩
        have h400 : frs.len < 400 := by simp at hc2; omega
        refine (frames_c w4 F sb S hs hk).use ?_
        rintro r41 w8 ⟨G1, o1, f1⟩
        have hfl1 := SS.frames_len S
        have hkw := hk.w1
        refine (oF.keepQ f1.q).app ap22 (o1.rd ci1 (by decide)) ci1 (by decide) cione (by unfold maxLen; omega) (by omega) fun r42 w9 Gf' o2 l2 st2 => ?_
        rw [← List.flatMap_append] at o2
        have hO8 := hO.quiet f1.q
        refine ⟨S, Q, Gf', Ga, fr ++ S.frames, ak, hL, rfl, rfl, rfl, by omega, (hs.keepQ f1.q).keep st2.only (hO8.dj (i := 0) (j := 2) (by decide)), (hR.keepQ f1.q).keep st2.only (hO8.dj (i := 1) (j := 2) (by decide)), o2, (oA.keepQ f1.q).keep st2.only (hO8.dj (i := 3) (j := 2) (by decide)), (hO8.step 2 st2).congr (four_upd (F := F) (G := H) (H := Gf) (I := Ga) 2 Gf'), fun f hf => ?_, ?_, hak, by omega⟩
        · rcases List.mem_append.1 hf with e | e
          · exact hfr f e
          · exact frames_mem hk e
        · rw [List.length_append]
          omega
      · refine ⟨fun _ => stay w4 (Only.refl _ _), fun hc2 => ?_⟩
        have hne : fr ≠ [] := by
          rintro rfl
          rw [frl] at hc2
          simp at hc2
        refine ha.ixx i0 hx fun p hat => (hat _ hO.bl).ld (j := 1) (x := num) rfl ?_
        refine (pick_c w4 frs fr num (oF.rd ci1 (by decide)) hne (by omega)).use ?_
        rintro r47 w10 ⟨rfl, rfl⟩
        obtain ⟨f1, f2⟩ := hfr _ (pickP_mem num hne)
        generalize pickP fr num = f at *
        refine (take_c w4 H rb Q f hR hq (by omega)).use ?_
        rintro r48 w11 ⟨e48, hR1, st1, G1, o1, g1⟩
        have hL1 := hL.take f1 f2
        have hO1 := hO.same 1 st1
        have hs1 := hs.keep st1.only (hO.dj (i := 0) (j := 1) (by decide))
        have oF1 := oF.keep st1.only (hO.dj (i := 2) (j := 1) (by decide))
        have oA1 := oA.keep st1.only (hO.dj (i := 3) (j := 1) (by decide))
        have hgr := o1.rd ci1 (by decide)
        have hgl := hgr.len
        have hgl2 := got_len (Q := Q) f
        have hR64 := RS.take_R hq f
        refine ⟨fun (c : Int × Int) w' => 0 ≤ c.2 ∧ c.2 ≤ (Q.got f).length ∧ c.1 = Q.R + c.2 ∧ w11 = w', fun c _ => ((Q.got f).length - c.2).toNat, ⟨by simp, by simp, by simp, rfl⟩, ?_⟩
        rintro ⟨nx, k⟩ w12 ⟨k0, k1, hnx, rfl⟩
        dsimp only at k0 k1 hnx ⊢
        refine ⟨fun hk' => ?_, fun hk' => ?_⟩
        · have hlt2 : k < (Q.got f).length := by rw [hgl] at hk'; simpa using hk'
          have hg := got_get (Q := Q) (f := f) (k := k.toNat) (by omega)
          rw [show Q.R + ((k.toNat : Nat) : Int) = nx by omega] at hg
          refine hgr.ixx k0 hg fun p hat _ => hat.ld0 rfl ⟨fun hc => absurd hc (by simp), fun _ => ?_⟩
          have := hq.r0
          rw [w64 (x := nx + 1) (by omega) (by omega), w64 (x := k + 1) (by omega) (by omega)]
          exact ⟨⟨by (try dsimp only); omega, by (try dsimp only); omega, by (try dsimp only); omega, rfl⟩, by (try dsimp only); omega⟩
        have hkl : k = (Q.got f).length := by rw [hgl] at hk'; simp at hk'; omega
        have hnx2 : nx = (Q.take f).R := by omega
        subst hnx2
        rw [e48]
        refine jn.mk (fun c w' => c = false ∧ w11 = w') ⟨fun hc => absurd hc (by simp), fun _ => (next_c w11 H rb _ hR1).use ?_⟩ ?_
        · rintro r w13 ⟨rfl, rfl⟩
          exact ⟨by simp, rfl⟩
        rintro c w14 ⟨rfl, rfl⟩
        refine ⟨fun hc => (by cases hc), fun _ => ?_⟩
        have akl1 : aks.len = ak.length := (oA1.rd ci1 (by decide)).len
        refine OwnF.push ap22 oA1 rfl rfl (by unfold maxLen; omega) (by omega) fun r60 w16 Ga' o2 l2 st2 => ?_
        have o2' : OwnF w16 Ga' 3 1 r60 ((ak ++ [(Q.take f).R]).flatMap ci) := by simpa [ci] using o2
        refine ⟨S, Q.take f, Gf, Ga', fr, ak ++ [(Q.take f).R], hL1, rfl, rfl, rfl, by omega, hs1.keep st2.only (hO1.dj (i := 0) (j := 3) (by decide)), hR1.keep st2.only (hO1.dj (i := 1) (j := 3) (by decide)), oF1.keep st2.only (hO1.dj (i := 2) (j := 3) (by decide)), o2', (hO1.step 3 st2).congr (four_upd (F := F) (G := H) (H := Gf) (I := Ga) 3 Ga'), hfr, hfl, fun n hn => ?_, ?_⟩
        · rcases List.mem_append.1 hn with e | e
          · have := hak n e
            omega
          · simp at e
            subst e
            exact ⟨hL1.qo.r0, Int.le_refl _⟩
        · rw [List.length_append]
          simp
          omega
      · refine jn.mk (fun c w' => w4 = w') ⟨fun _ => rfl, fun _ => rfl⟩ ?_
        rintro c w17 rfl
        refine ⟨fun _ => ⟨fun _ => stay w4 (Only.refl _ _), fun hc2 => ?_⟩, fun _ => stay w4 (Only.refl _ _)⟩
        have hne : ak ≠ [] := by
          rintro rfl
          rw [akl] at hc2
          simp at hc2
        have hpos := List.length_pos_iff.2 hne
        rw [akl, w64 (by omega) (by omega)]
        obtain ⟨x, hxx⟩ := getq (l := ak) (i := (ak.length : Int) - 1) (by omega) (by omega)
        refine (oA.rd ci1 (by decide)).ixx (by omega) hxx fun p hat _ => hat.ld0 rfl ?_
        refine jn.mk (fun c w' => c ∈ ak ∧ w4 = w') ?_ ?_
        · refine ha.ixx i0 hx fun p hat => (hat _ hO.bl).ld (j := 0) (x := kind) rfl ⟨fun _ => ?_, fun _ => ⟨List.mem_of_getElem? hxx, rfl⟩⟩
          refine ha.ixx i0 hx fun p hat => (hat _ hO.bl).ld (j := 1) (x := num) rfl ?_
          refine (pick_c w4 aks ak num (oA.rd ci1 (by decide)) hne (by omega)).use ?_
          rintro r75 w19 ⟨rfl, rfl⟩
          exact ⟨pickP_mem num hne, rfl⟩
        · rintro c w18 ⟨hc, rfl⟩
          obtain ⟨c0, c1⟩ := hak c hc
          obtain ⟨e1, e2, e3, e4, e5⟩ := hL.ack c0 c1
          refine (ack_c w4 F sb S c hs hk).use ?_
          rintro r76 w20 ⟨rfl, hs1, st1⟩
          refine ⟨fun hc => absurd hc (by simp [e1]), fun _ => ?_⟩
          refine ⟨S.ack c, Q, Gf, Ga, fr, ak, e2, e4.symm, rfl, e3.symm, by rw [e4]; omega, hs1, hR.keep st1.only (hO.dj (i := 1) (j := 0) (by decide)), oF.keep st1.only (hO.dj (i := 2) (j := 0) (by decide)), oA.keep st1.only (hO.dj (i := 3) (j := 0) (by decide)), hO.same 0 st1, fun f hf => ?_, hfl, hak, by omega⟩
          have := hfr f hf
          rw [e3, e4, e5]
          omega
    · rintro ⟨frs', aks', sent', next', acked'⟩ w6 hI
      dsimp only at hI ⊢
      obtain ⟨S', Q', Gf', Ga', fr', ak', hL', rfl, rfl, rfl, hNi', hs', hR', oF', oA', hO', hfr', hfl', hak', hal'⟩ := hI
      have h1 := hL'.rN
      have h2 := hL'.bR
      have h3 := hL'.so.b0
      have h4 := hL'.so.n1
      refine jn.mk (fun c w' => c = false ∧ Quiet w6 w') ⟨fun hc => ?_, fun _ => (left_c w6 F sb S' hs' hL'.so).use ?_⟩ ?_
      · simp at hc
        omega
      · rintro r82 w21 ⟨rfl, q⟩
        rw [w64 (by omega) (by omega)]
        exact ⟨by simp, q⟩
      · rintro c w22 ⟨rfl, q⟩
        refine ⟨fun hc => (by cases hc), fun _ => ?_⟩
        exact ⟨S', Q', Gf', Ga', fr', ak', hL', rfl, rfl, rfl, hNi', hs'.keepQ q, hR'.keepQ q, oF'.keepQ q, oA'.keepQ q, hO'.quiet q, hfr', hfl', hak', hal'⟩
  · rintro ⟨frs', aks', sent', next', acked'⟩ w5 hI
    rw [w64 (by omega) (by omega)]
    exact ⟨⟨by (try dsimp only); omega, by (try dsimp only); omega, hI⟩, by (try dsimp only); omega⟩
end Go.Proofs.Ytaogjbmgobfdoaa
