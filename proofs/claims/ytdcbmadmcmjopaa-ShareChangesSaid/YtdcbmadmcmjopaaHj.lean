import Derived.Test.YtdcbmadmcmjopaaHi
namespace Go.Proofs.Ytdcbmadmcmjopaa
open Go.Dec Go.RowKit
set_option maxHeartbeats 1600000
set_option maxRecDepth 10000

/-! ### a row put together out of parts of an old one -/
def Part (w0 w : World) (r : Sl) (l : List Pt) : Prop := Rd w pt 2 r l ∧ r.len ≤ r.cap ∧ ∀ ad, r.a = some ad → ad.block < w0.heap.size
def Ext (w0 w w' : World) : Prop := Only (fun x => w0.heap.size ≤ x) w w'
def Bx (w0 w : World) (b : Nat) : Prop := Blk w b 39 #[] ∧ w0.heap.size ≤ b ∧ b < w.heap.size
def Out (w0 w : World) (r : Sl) (l : List Pt) : Prop := ∃ F : Nat → Prop, OwnF w F 39 2 r (l.flatMap pt) ∧ ∀ b, F b → w0.heap.size ≤ b
theorem Part.ext {w0 w w' : World} {r : Sl} {l : List Pt} (h : Part w0 w r l) (e : Ext w0 w w') : Part w0 w' r l := ⟨h.1.keep e (fun ad ha _ c => by have := h.2.2 ad ha; omega), h.2⟩
theorem Part.q {w0 w : World} {r : Sl} {l : List Pt} (h : Part w0 w0 r l) (q : Quiet w0 w) : Part w0 w r l := ⟨h.1.keepQ q, h.2⟩
theorem Part.kq {w0 w w' : World} {r : Sl} {l : List Pt} (h : Part w0 w r l) (q : Quiet w w') : Part w0 w' r l := ⟨h.1.keepQ q, h.2⟩
theorem Ext.q {w0 w w' : World} (e : Ext w0 w w') (q : Quiet w0 w) : Quiet w0 w' := q.new e fun _ h => h
theorem up {w0 w : World} {s : Sl} {L : List Pt} {i : Int} {K : Sl → World → Prop} (h : Part w0 w s L) (i0 : 0 ≤ i) (i1 : i ≤ L.length) (k : ∀ r, Part w0 w r (L.take i.toNat) → K r w) : rn Try.prog (Instr.sliceAt 22 s.v none (some (.int .i64 i)) none) (fun r => Sl.v r) w K :=
  rn_upto apS h.1 h.2.1 i0 i1 fun r h1 h2 h3 => k r ⟨h1, h2, fun ad ha => h.2.2 ad (h3 ▸ ha)⟩
theorem dn {w0 w : World} {s : Sl} {L : List Pt} {i : Int} {K : Sl → World → Prop} (h : Part w0 w s L) (i0 : 0 ≤ i) (i1 : i ≤ L.length) (k : ∀ r, Part w0 w r (L.drop i.toNat) → K r w) : rn Try.prog (Instr.sliceAt 22 s.v (some (.int .i64 i)) none none) (fun r => Sl.v r) w K :=
  rn_from apS h.1 h.2.1 i0 i1 fun r h1 h2 h3 => k r ⟨h1, h2, fun ad ha => by
    obtain ⟨ad', e1, e2⟩ := h3 ad ha
    rw [e2]
    exact h.2.2 ad' e1⟩
theorem bx {w0 w : World} {K : Nat → World → Prop} (q : Quiet w0 w) (k : ∀ b w', Bx w0 w' b → Quiet w w' → K b w') : nw 39 #[] w K :=
  nwL fun b w' hB q' g _ l => k b w' ⟨hB, Nat.le_trans q.size g, l⟩ q'
theorem ap1 {w0 w : World} {b : Nat} {u : Sl} {l : List Pt} {K : Sl → World → Prop} (h : Bx w0 w b) (hu : Part w0 w u l) (hl : l.length ≤ 1000)
    (k : ∀ r w', Out w0 w' r l → Ext w0 w w' → K r w') : rn Try.prog (Builtin.append_ #[22, 22] 22 #[Sl.v (⟨some ⟨b, 0, none⟩, 0, 0⟩ : Sl), Sl.v u]) Sl.v w K := by
  have ho : OwnF w (fun x => x = b) 39 2 (⟨some ⟨b, 0, none⟩, 0, 0⟩ : Sl) [] := empty_own h.1
  refine ho.app apS hu.1 pt_len (by decide) pt_one (by unfold maxLen; simp; omega) (by simp; omega) fun r w' F o _ st => k r w' ⟨F, by simpa using o, fun x hx => ?_⟩ (st.only.mono fun x _ e => by subst e; exact h.2.1)
  have h1 := h.2.1
  have h2 := h.2.2
  rcases st.sub x hx with e | e
  · omega
  · omega
theorem ap2 {w0 w : World} {r v : Sl} {l m : List Pt} {K : Sl → World → Prop} (q : Quiet w0 w) (ho : Out w0 w r l) (hv : Part w0 w v m) (hl : l.length ≤ 1000) (hm : m.length ≤ 1000)
    (k : ∀ r' w', Out w0 w' r' (l ++ m) → Ext w0 w w' → K r' w') : rn Try.prog (Builtin.append_ #[22, 22] 22 #[Sl.v r, Sl.v v]) Sl.v w K := by
  obtain ⟨F, o, hF⟩ := ho
  have hrl := (o.rd pt_len (by decide)).len
  refine o.app apS hv.1 pt_len (by decide) pt_one (by unfold maxLen; omega) (by omega) fun r' w' F' o' _ st => k r' w' ⟨F', by rw [List.flatMap_append]; exact o', fun x hx => ?_⟩ (st.only.mono fun x _ e => hF x e)
  have := q.size
  rcases st.sub x hx with e | e
  · exact hF x e
  · omega
theorem fin {w0 w : World} {r : Sl} {l : List Pt} {k : Int} {R : Int × Int → World → Prop} (q : Quiet w0 w) (ho : Out w0 w r l) (hl : l.length ≤ 1000) (hR : ∀ x w', JoinR l k x → Quiet w0 w' → R x w') :
    callC Try.prog 10 #[r.v, .int .i64 k] (fun (r : Int × Int) => .tuple #[.int .i64 r.1, .int .i64 r.2]) w R := by
  obtain ⟨F, o, _⟩ := ho
  exact (join_c w r l k (o.rd pt_len (by decide)) o.cap hl).use fun x w' h => hR x w' h.1 (q.tr h.2)

theorem changes (W : World) (a : Int) (ha : -9223372036854775808 ≤ a) (ha' : a ≤ 9223372036854775807) (b : Int) (hb : 0 ≤ b) (hb' : b ≤ 255) (c : Int) (hc : 0 ≤ c) (hc' : c ≤ 255) (d : Int) (_ : -9223372036854775808 ≤ d) (_ : d ≤ 9223372036854775807) (e : Int) (he : 0 ≤ e) (he' : e ≤ 255) (o : Int) (ho : -9223372036854775808 ≤ o) (ho' : o ≤ 9223372036854775807) :
    callC Try.prog 6 #[.int .i64 a, .int .u8 b, .int .u8 c, .int .i64 d, .int .u8 e, .int .i64 o] (fun (r : Bool) => .bool r) W fun r w' => r = true ∧ Below W.heap.size W w' := by
  refine callC.use (R := fun r w' => r = true ∧ Quiet W w') ?_ fun _ _ h => ⟨h.1, bq h.2⟩
  refine D6 _ _ _ _ _ _ W _ ?_
  unfold F6
  refine (small_c W).use ?_
  rintro _ w1 ⟨rfl, q1⟩
  refine (numbers_c w1 a b c ⟨ha, ha'⟩ ⟨hb, hb'⟩ ⟨hc, hc'⟩).use ?_
  rintro ⟨x, k, n⟩ w2 ⟨⟨hx, hk, hn⟩, q2⟩
  dsimp only at hx hk hn ⊢
  refine use_same (mod_c w2 o ho ho') ?_
  generalize hye : o % 2147483647 = y
  have hyf : Fld y := by rw [← hye]; exact mod_fld _
  have hxf : Fld x := by rw [hx]; exact mod_fld _
  clear hye ho ho' hx ha ha'
  refine (split_c w2 x k n d (by omega)).use ?_
  rintro r12 w4 ⟨_, hs, q4⟩
  obtain ⟨e12, F12, o12, f12⟩ := hs ⟨hxf, ⟨by omega, hn⟩, hk.1, hk.2⟩
  have ra := o12.rd pt_len (by decide)
  have ral := ra.len
  have Q4 := (q1.tr q2).tr q4
  clear hs q1 q2 q4
  obtain ⟨N, rfl⟩ := Int.eq_ofNat_of_zero_le (show 0 ≤ n by omega)
  obtain ⟨k', rfl⟩ := Int.eq_ofNat_of_zero_le (show 0 ≤ k by omega)
  rw [Int.toNat_natCast, Int.toNat_natCast] at o12 ra ral
  rw [spl_len] at ral
  refine ⟨fun g1 => ?_, fun _ => ?_⟩
  · simp [e12, ral] at g1
  refine ⟨by omega, ?_⟩
  have hi0 : (IntKind.i64.wrap e).tmod N = e % N := by rw [w64 (by omega) (by omega), Int.tmod_eq_emod_of_nonneg he]
  rw [hi0]
  have hi1 := Int.emod_lt_of_pos e (show 0 < (N : Int) by omega)
  have hi2 := Int.emod_nonneg e (show (N : Int) ≠ 0 by omega)
  generalize e % (N : Int) = i at hi1 hi2
  clear hi0
  obtain ⟨j, rfl⟩ := Int.eq_ofNat_of_zero_le hi2
  have hj : j < N := by omega
  let Y : Nat → Int := fun j => (shAt x k' d j).y
  have hY : ∀ j, Fld (Y j) := fun j => mod_fld _
  have hL : splP x k' N d = rowP N Y := rfl
  have hxj : (splP x k' N d)[((j : Nat) : Int).toNat]? = some (shAt x k' d j) := by rw [Int.toNat_natCast]; exact spl_at hj
  refine rn_copy apS ra pt_len (by decide) pt_one (by rw [spl_len]; unfold maxLen; omega) (by rw [spl_len]; omega) fun r18 w6 F18 o18 _ f18 => ?_
  refine (o18.rd pt_len (by decide)).ixx hi2 hxj fun p19 h19 _ => h19.ld (j := 1) rfl ?_
  have y1 := (hY j).1
  have y2 := (hY j).2
  have z1 := hyf.1
  have z2 := hyf.2
  have hsum : IntKind.i64.wrap (Y j + y) = Y j + y := w64 (by omega) (by omega)
  refine use_same (v := (Y j + y) % 2147483647) (by
    show callC _ _ #[.int .i64 (IntKind.i64.wrap (Y j + y))] _ _ _
    rw [hsum]
    exact mod_c w6 (Y j + y) (by omega) (by omega)) ?_
  refine o18.setj (x := shAt x k' d j) (y := (⟨(j : Int) + 1, (Y j + y) % 2147483647⟩ : Pt)) (j := 1) pt_len hi2 hxj rfl (by decide) fun w8 o8 on8 _ => ?_
  have q8 : Quiet w4 w8 := f18.q.new on8 fun x hx => (f18.b x hx).1
  let Z : Nat → Int := fun i => if i = j then (Y j + y) % 2147483647 else Y i
  have hZj : Z j = (Y j + y) % 2147483647 := if_pos rfl
  have hZn : ∀ i, i ≠ j → Z i = Y i := fun i h => if_neg h
  have hZ : ∀ i, Fld (Z i) := fun i => by
    show Fld (if i = j then (Y j + y) % 2147483647 else Y i)
    split
    · exact mod_fld _
    · exact hY i
  have hset : (splP x k' N d).set j (⟨(j : Int) + 1, (Y j + y) % 2147483647⟩ : Pt) = rowP N Z := rowF_set (f := fun i => (⟨(i : Int) + 1, Y i⟩ : Pt)) (g := fun i => (⟨(i : Int) + 1, Z i⟩ : Pt)) hj (by rw [hZj]) fun i _ h => by rw [hZn i h]
  rw [Int.toNat_natCast, hset] at o8
  generalize hrest : (splP x k' N d).take j ++ (splP x k' N d).drop (j + 1) = rest
  have hre : rest = (splP x k' N d).eraseIdx j := by rw [← hrest, List.eraseIdx_eq_take_drop_succ]
  have hre' : rest = (rowP N Z).eraseIdx j := by rw [hre, ← hset, List.eraseIdx_set_eq]
  have hrl : rest.length = N - 1 := by rw [hre, List.length_eraseIdx, spl_len, if_pos hj]
  have hrs : ∀ s ∈ rest, s ∈ splP x k' N d := fun s hs => (List.eraseIdx_sublist _ _).subset (hre ▸ hs)
  have hrz : ∀ s ∈ rest, s ∈ rowP N Z := fun s hs => (List.eraseIdx_sublist _ _).subset (hre' ▸ hs)
  have hrd : rest.Nodup := by
    rw [hre]
    exact (spl_nd x k' N d).sublist (List.eraseIdx_sublist _ _)
  have Wr : WrongP rest (k' : Int) = 0 := wrong_ok (by omega) (fun s hs => spl_in (by omega) s (hrs s hs)) (sub_nd hrs hrd)
  have Wz : WrongP (rowP N Z) (k' : Int) = 0 := rowP_w (by omega) (by omega) hZ
  have P : IsP k' (splF x k' d) := splF_P x d (by omega)
  have Tr : Thru (splF x k' d) rest := fun s hs => spl_thru _ _ _ _ s (hrs s hs)
  have h0 := splF_0 x k' d
  refine (join_c w8 r18 _ k' (o8.rd pt_len (by decide)) o8.cap (by rw [rowP_len]; omega)).use ?_
  rintro r24 w9 ⟨j24, q9⟩
  have ra9 := ra.keepQ (q8.tr q9)
  have hw1 : IntKind.i64.wrap ((j : Int) + 1) = (j : Int) + 1 := w64 (by omega) (by omega)
  rw [hw1]
  have hlt : ∀ ad, r12.1.a = some ad → ad.block < w9.heap.size := fun ad had => by
    have h1 := (f12.b ad.block (o12.blk _ (by simp [Sl.blk, had]))).2
    have h2 := (q8.tr q9).size
    omega
  refine jn.mk (fun (r : Int × Int) w' => JoinR rest k' r ∧ Quiet w9 w') ?_ ?_
  · show tk _ _
    unfold tk
    have qd : Quiet w9 w9.drew := Only.drew _ _
    have hs0 : Part w9 w9 r12.1 (splP x k' N d) := ⟨ra9, o12.cap, hlt⟩
    have hs := hs0.q qd
    generalize w9.drew = w10 at *
    have i1 : (j : Int) ≤ (splP x k' N d).length := by rw [spl_len]; omega
    have i2 : (j : Int) + 1 ≤ (splP x k' N d).length := by rw [spl_len]; omega
    have l1 : ((splP x k' N d).take ((j : Nat) : Int).toNat).length ≤ 1000 := by rw [List.length_take, spl_len]; omega
    have l2 : ((splP x k' N d).drop ((j : Int) + 1).toNat).length ≤ 1000 := by rw [List.length_drop, spl_len]; omega
    have l3 : ((splP x k' N d).take ((j : Nat) : Int).toNat ++ (splP x k' N d).drop ((j : Int) + 1).toNat).length ≤ 1000 := by rw [List.length_append, List.length_take, List.length_drop, spl_len]; omega
    have fine : ∀ {w : World} {r : Sl}, Quiet w9 w → Out w9 w r ((splP x k' N d).take ((j : Nat) : Int).toNat ++ (splP x k' N d).drop ((j : Int) + 1).toNat) → callC Try.prog 10 #[r.v, .int .i64 (k' : Int)] (fun (r : Int × Int) => .tuple #[.int .i64 r.1, .int .i64 r.2]) w fun r w' => JoinR rest k' r ∧ Quiet w9 w' := by
      intro w r q o
      refine fin q o l3 fun x w' h q' => ⟨?_, q'⟩
      rwa [Int.toNat_natCast, show ((j : Int) + 1).toNat = j + 1 by omega, hrest] at h
    have i3 : 0 ≤ (j : Int) + 1 := by omega
    refine ⟨?_, ?_, ?_⟩
    · refine bx qd fun b w11 hb q11 => ?_
      have Q := qd.tr q11
      have hs' := hs.kq q11
      refine ⟨up hs' hi2 i1 fun r28 h28 => ⟨?_, ?_⟩, ?_⟩
      · exact ap1 hb h28 l1 fun r29 w13 o29 e13 => dn (hs'.ext e13) i3 i2 fun r30 h30 => ap2 (e13.q Q) o29 h30 l1 l2 fun r31 w15 o31 e15 => fine (e15.q (e13.q Q)) o31
      · exact dn hs' i3 i2 fun r33 h33 => ap1 hb h28 l1 fun r34 w18 o34 e18 => ap2 (e18.q Q) o34 (h33.ext e18) l1 l2 fun r35 w19 o35 e19 => fine (e19.q (e18.q Q)) o35
      · exact dn hs' i3 i2 fun r37 h37 => up hs' hi2 i1 fun r38 h38 => ap1 hb h38 l1 fun r39 w23 o39 e23 => ap2 (e23.q Q) o39 (h37.ext e23) l1 l2 fun r40 w24 o40 e24 => fine (e24.q (e23.q Q)) o40
    · refine up hs hi2 i1 fun r42 h42 => ⟨?_, ?_⟩
      · refine bx qd fun b w11 hb q11 => ?_
        have Q := qd.tr q11
        have hs' := hs.kq q11
        have h42 := h42.kq q11
        refine ⟨?_, ?_⟩
        · exact ap1 hb h42 l1 fun r29 w13 o29 e13 => dn (hs'.ext e13) i3 i2 fun r30 h30 => ap2 (e13.q Q) o29 h30 l1 l2 fun r31 w15 o31 e15 => fine (e15.q (e13.q Q)) o31
        · exact dn hs' i3 i2 fun r33 h33 => ap1 hb h42 l1 fun r34 w18 o34 e18 => ap2 (e18.q Q) o34 (h33.ext e18) l1 l2 fun r35 w19 o35 e19 => fine (e19.q (e18.q Q)) o35
      · refine dn hs i3 i2 fun r52 h52 => bx qd fun b w11 hb q11 => ?_
        have Q := qd.tr q11
        exact ap1 hb (h42.kq q11) l1 fun r34 w18 o34 e18 => ap2 (e18.q Q) o34 ((h52.kq q11).ext e18) l1 l2 fun r35 w19 o35 e19 => fine (e19.q (e18.q Q)) o35
    · refine dn hs i3 i2 fun r57 h57 => ⟨?_, ?_⟩
      · refine bx qd fun b w11 hb q11 => ?_
        have Q := qd.tr q11
        exact up (hs.kq q11) hi2 i1 fun r59 h59 => ap1 hb h59 l1 fun r34 w18 o34 e18 => ap2 (e18.q Q) o34 ((h57.kq q11).ext e18) l1 l2 fun r35 w19 o35 e19 => fine (e19.q (e18.q Q)) o35
      · refine up hs hi2 i1 fun r63 h63 => bx qd fun b w11 hb q11 => ?_
        have Q := qd.tr q11
        exact ap1 hb (h63.kq q11) l1 fun r34 w18 o34 e18 => ap2 (e18.q Q) o34 ((h57.kq q11).ext e18) l1 l2 fun r35 w19 o35 e19 => fine (e19.q (e18.q Q)) o35
  rintro ⟨g, rf⟩ w52 ⟨jr, q52⟩
  dsimp only at jr ⊢
  have QF : Quiet W w52 := ((Q4.tr q8).tr q9).tr q52
  -- what the changed point says
  have hZl : (rowP N Z).length = N := rowP_len _ _
  have off : ∀ h : Int → Int, (∀ z, cg (h z) (splF x k' d z)) → Thru h (rowP N Z) → y = 0 := fun h hz ht => by
    have hm : (⟨(j : Int) + 1, Z j⟩ : Pt) ∈ rowP N Z := List.mem_map.2 ⟨j, List.mem_range.2 hj, rfl⟩
    have e1 := ht _ hm
    rw [hZj] at e1
    have e2 : cg (splF x k' d ((j : Int) + 1)) (Y j) := (cgm _).symm
    have e3 : cg (Y j) (Y j + y) := (e2.symm.trans (hz _).symm).trans (e1.trans (cgm _))
    have e4 : cg (Y j + 0) (Y j + y) := by rwa [Int.add_zero]
    have e5 : cg 0 y := by
      have := e4.sub (cg.refl (Y j))
      rwa [show Y j + 0 - Y j = 0 by omega, show Y j + y - Y j = y by omega] at this
    exact (fld_eq e5 fld0 hyf).symm
  refine ⟨fun g1 => ?_, fun _ => ?_⟩
  · exfalso
    by_cases hkn : k' < N
    · obtain ⟨a1, a2, a3⟩ := join_on jr Wr (by rw [hrl]; omega) P Tr
      rw [h0] at a2
      have a4 : g = x := fld_eq a2 a1 hxf
      dsimp only at a3
      rw [a3, a4] at g1
      simp at g1
      omega
    · have a1 := join_few jr Wr (by rw [hrl]; omega)
      injection a1 with a1 a2
      rw [a1, a2] at g1
      simp at g1
      omega
  refine ⟨fun g2 => ?_, fun g2 => ?_⟩
  · have g2 : y = 0 := of_decide_eq_true g2
    have Tz : Thru (splF x k' d) (rowP N Z) := rowP_thru fun i _ => by
      by_cases hij : i = j
      · subst hij
        rw [hZj, g2, Int.add_zero]
        exact ((cgm _).trans (cgm _)).symm
      · rw [hZn i hij]
        exact (cgm _).symm
    obtain ⟨a1, a2, a3⟩ := join_on j24 Wz (by rw [hZl]; omega) P Tz
    rw [h0] at a2
    have a4 : r24.1 = x := fld_eq a2 a1 hxf
    refine ⟨?_, QF⟩
    rw [a3, a4]
    simp
  have g2 : y ≠ 0 := of_decide_eq_false g2
  refine ⟨fun g3 => ?_, fun g3 => ?_⟩
  · have g3 : (k' : Int) < N := of_decide_eq_true g3
    have a1 := join_off j24 Wz (by rw [hZl]; omega) fun hA => by
      rw [Int.toNat_natCast] at hA
      have tg := agree_thru (dis_w Wz) hA
      have hP : IsP k' (lag ((rowP N Z).take k')) := by
        have := lag_P ((rowP N Z).take k')
        rwa [List.length_take, hZl, Nat.min_eq_left (by omega)] at this
      refine g2 (off _ (fun z => hP.uniq P (l := rest.map Pt.x) (by rw [List.length_map, hrl]; omega) (dis_w Wr).xs (fun v hv => ?_) z) tg)
      obtain ⟨s, hs, rfl⟩ := List.mem_map.1 hv
      exact (tg s (hrz s hs)).trans (Tr s hs).symm
    refine ⟨?_, QF⟩
    rw [a1]
    rfl
  · have g3 : ¬ (k' : Int) < N := of_decide_eq_false g3
    have hkn : k' = N := by omega
    have hA : AgreeP (rowP N Z) k' := fun s hs => by
      rw [List.drop_of_length_le (by rw [hZl]; omega)] at hs
      cases hs
    obtain ⟨a1, a2, a3⟩ := join_some j24 Wz (by rw [hZl]; omega) hA
    rw [Int.toNat_natCast, List.take_of_length_le (by rw [hZl]; omega)] at a2
    have hne : r24.1 ≠ x := fun ex => by
      rw [ex] at a2
      have tg := lag_thru (dis_w Wz)
      have hP : IsP k' (lag (rowP N Z)) := by
        have := lag_P (rowP N Z)
        rw [hZl] at this
        exact this.mono (by omega)
      obtain ⟨_, hin, hnd⟩ := wrong0 Wr
      refine g2 (off _ (fun z => hP.uniq P (l := ((⟨0, x⟩ : Pt) :: rest).map Pt.x) (by rw [List.length_map, List.length_cons, hrl]; omega) (dis0 hxf hin hnd).xs (fun v hv => ?_) z) tg)
      obtain ⟨s, hs, rfl⟩ := List.mem_map.1 hv
      rcases List.mem_cons.1 hs with es | hs
      · rw [es]
        show cg (lag (rowP N Z) 0) (splF x k' d 0)
        rw [h0]
        exact a2.symm
      · exact (tg s (hrz s hs)).trans (Tr s hs).symm
    refine ⟨?_, QF⟩
    rw [a3, decide_eq_false hne]
    rfl
end Go.Proofs.Ytdcbmadmcmjopaa
