import Derived.Test.YtdcbmadmcmjopaaHh
namespace Go.Proofs.Ytdcbmadmcmjopaa
open Go.Dec Go.RowKit
set_option maxHeartbeats 1600000
set_option maxRecDepth 10000

def rowP (n : Nat) (g : Nat → Int) : List Pt := rowF n fun j => (⟨(j : Int) + 1, g j⟩ : Pt)
theorem rowP_len (n : Nat) (g : Nat → Int) : (rowP n g).length = n := rowF_len _ _
theorem rowP_mem {n : Nat} {g : Nat → Int} {s : Pt} (h : s ∈ rowP n g) : ∃ j, j < n ∧ s = ⟨(j : Int) + 1, g j⟩ := by
  obtain ⟨i, hi, e⟩ := List.mem_map.1 h
  exact ⟨i, List.mem_range.1 hi, e.symm⟩
theorem rowP_snoc (n : Nat) (g : Nat → Int) : rowP (n + 1) g = rowP n g ++ [⟨(n : Int) + 1, g n⟩] := by
  unfold rowP rowF
  rw [List.range_succ, List.map_append, List.map_singleton]
theorem rowP_nd (n : Nat) (g : Nat → Int) : ((rowP n g).map Pt.x).Nodup := by
  rw [List.nodup_iff_pairwise_ne]
  unfold rowP rowF
  rw [List.pairwise_map, List.pairwise_map]
  refine (List.nodup_iff_pairwise_ne.1 List.nodup_range).imp fun {a b} hne e => hne ?_
  have h : (a : Int) + 1 = (b : Int) + 1 := e
  omega
theorem rowP_w {n : Nat} {k : Int} {g : Nat → Int} (hn : n ≤ 20) (hk : 1 ≤ k ∧ k ≤ 20) (hg : ∀ j, Fld (g j)) : WrongP (rowP n g) k = 0 :=
  wrong_ok hk (fun s hs => by
    obtain ⟨j, hj, rfl⟩ := rowP_mem hs
    refine ⟨?_, hg j⟩
    show 1 ≤ (j : Int) + 1 ∧ (j : Int) + 1 ≤ 20
    omega) (rowP_nd n g)
theorem rowP_thru {n : Nat} {g : Nat → Int} {f : Int → Int} (h : ∀ j, j < n → cg (f ((j : Int) + 1)) (g j)) : Thru f (rowP n g) := fun s hs => by
  obtain ⟨j, hj, rfl⟩ := rowP_mem hs
  exact h j hj
theorem sums (W : World) (a : Int) (ha : -9223372036854775808 ≤ a) (ha' : a ≤ 9223372036854775807) (b : Int) (hb : -9223372036854775808 ≤ b) (hb' : b ≤ 9223372036854775807) (c : Int) (hc : 0 ≤ c) (hc' : c ≤ 255) (d : Int) (hd : 0 ≤ d) (hd' : d ≤ 255) (e : Int) (_ : -9223372036854775808 ≤ e) (_ : e ≤ 9223372036854775807) (f : Int) (_ : -9223372036854775808 ≤ f) (_ : f ≤ 9223372036854775807) :
    callC Try.prog 5 #[.int .i64 a, .int .i64 b, .int .u8 c, .int .u8 d, .int .i64 e, .int .i64 f] (fun (r : Bool) => .bool r) W fun r w' => r = true ∧ Below W.heap.size W w' := by
  refine callC.use (R := fun r w' => r = true ∧ Quiet W w') ?_ fun _ _ h => ⟨h.1, bq h.2⟩
  refine D5 _ _ _ _ _ _ W _ ?_
  unfold F5
  refine (small_c W).use ?_
  rintro _ w1 ⟨rfl, q1⟩
  refine (numbers_c w1 a c d ⟨ha, ha'⟩ ⟨hc, hc'⟩ ⟨hd, hd'⟩).use ?_
  rintro ⟨x, k, n⟩ w2 ⟨⟨hx, hk, hn⟩, q2⟩
  dsimp only at hx hk hn ⊢
  refine use_same (mod_c w2 b hb hb') ?_
  generalize hye : b % 2147483647 = y
  have hyf : Fld y := by rw [← hye]; exact mod_fld _
  have hxf : Fld x := by rw [hx]; exact mod_fld _
  refine (split_c w2 x k n e (by omega)).use ?_
  rintro r12 w4 ⟨_, hs, q4⟩
  obtain ⟨e12, F12, o12, f12⟩ := hs ⟨hxf, ⟨by omega, hn⟩, hk.1, hk.2⟩
  refine (split_c w4 y k n f (by omega)).use ?_
  rintro r13 w5 ⟨_, hs', q5⟩
  obtain ⟨e13, F13, o13, f13⟩ := hs' ⟨hyf, ⟨by omega, hn⟩, hk.1, hk.2⟩
  have ra := (o12.rd pt_len (by decide)).keepQ q5
  have rb := o13.rd pt_len (by decide)
  have ral := ra.len
  have rbl := rb.len
  rw [spl_len] at ral rbl
  have hnn : ((n.toNat : Nat) : Int) = n := Int.toNat_of_nonneg (by omega)
  have ba : ∀ ad, r12.1.a = some ad → 0 < (splP x k.toNat n.toNat e).length → ad.block < w5.heap.size := fun ad had _ => by
    have h1 := (f12.b ad.block (o12.blk _ (by simp [Sl.blk, had]))).2
    have h2 := q5.size
    omega
  have bb : ∀ ad, r13.1.a = some ad → 0 < (splP y k.toNat n.toNat f).length → ad.block < w5.heap.size := fun ad had _ =>
    (f13.b ad.block (o13.blk _ (by simp [Sl.blk, had]))).2
  have Q5 := ((q1.tr q2).tr q4).tr q5
  refine ⟨fun g1 => ?_, fun _ => ?_⟩
  · simp [e12, e13, ral, rbl, hnn] at g1
  let Y1 : Nat → Int := fun j => (shAt x k.toNat e j).y
  let Y2 : Nat → Int := fun j => (shAt y k.toNat f j).y
  let G1 : Nat → Int := fun j => (Y1 j + Y2 j) % 2147483647
  let G2 : Nat → Int := fun j => (Y1 j + y) % 2147483647
  have hY1 : ∀ j, Fld (Y1 j) := fun j => mod_fld _
  have hY2 : ∀ j, Fld (Y2 j) := fun j => mod_fld _
  refine ⟨fun (c : Sl × Sl × Int) w' => 0 ≤ c.2.2 ∧ c.2.2 ≤ n ∧ ∃ F G, Objs w5 w' (two F G) ∧ OwnF w' F 39 2 c.1 ((rowP c.2.2.toNat G1).flatMap pt) ∧ OwnF w' G 39 2 c.2.1 ((rowP c.2.2.toNat G2).flatMap pt), fun c _ => (n - c.2.2).toNat, ⟨by simp, by (try dsimp only); omega, _, _, (Objs.start w5).none2, OwnF.nil _ _ _ _, OwnF.nil _ _ _ _⟩, ?_⟩
  rintro ⟨p, q, i⟩ w6 ⟨i0, i1, F, G, O6, oA, oB⟩
  dsimp only at i0 i1 oA oB ⊢
  refine ⟨fun hi => ?_, fun hi => ?_⟩
  · have hi : i < n := of_decide_eq_true hi
    have hiI : ((i.toNat : Nat) : Int) = i := Int.toNat_of_nonneg i0
    have hx1 := spl_at (secret := x) (k := k.toNat) (n := n.toNat) (seed := e) (i := i.toNat) (by omega)
    have hx2 := spl_at (secret := y) (k := k.toNat) (n := n.toNat) (seed := f) (i := i.toNat) (by omega)
    have hi64 : IntKind.i64.wrap (i + 1) = i + 1 := w64 (by omega) (by omega)
    have e1 : (shAt x k.toNat e i.toNat).x = i + 1 := by
      show ((i.toNat : Nat) : Int) + 1 = i + 1
      omega
    have e2 : (shAt y k.toNat f i.toNat).x = i + 1 := by
      show ((i.toNat : Nat) : Int) + 1 = i + 1
      omega
    have y1 := hY1 i.toNat
    have y2 := hY2 i.toNat
    have y11 := y1.1
    have y12 := y1.2
    have y21 := y2.1
    have y22 := y2.2
    have yy1 := hyf.1
    have yy2 := hyf.2
    rw [hi64]
    refine (O6.rd ra ba).ixx i0 hx1 fun p24 h24 _ => h24.ld (j := 0) rfl (jp_or (v := !decide ((shAt y k.toNat f i.toNat).x = i + 1)) (fun _ J hJ => (O6.rd rb bb).ixx i0 hx2 fun p27 h27 _ => h27.ld (j := 0) rfl hJ) ⟨fun g => ?_, fun _ => ?_⟩)
    · rw [e1, e2] at g
      simp at g
    have hpl := (oA.rd pt_len (by decide)).len
    have hql := (oB.rd pt_len (by decide)).len
    rw [rowP_len] at hpl hql
    refine jn.mk (fun (r : Sl) w' => ∃ F' G', OwnF w' F' 39 2 r ((rowP (i.toNat + 1) G1).flatMap pt) ∧ Objs w5 w' (two F' G') ∧ OwnF w' G' 39 2 q ((rowP i.toNat G2).flatMap pt)) ?_ ?_
    · show tk _ _
      unfold tk
      have qd : Quiet w6 w6.drew := Only.drew _ _
      have O7 := O6.quiet qd
      have oA7 := oA.keepQ qd
      have oB7 := oB.keepQ qd
      generalize w6.drew = w7 at *
      refine (O7.rd ra ba).ixx i0 hx1 fun p33 h33 ⟨ad, had, hp⟩ => h33.ld (j := 1) rfl ((O7.rd rb bb).ixx i0 hx2 fun p35 h35 ⟨ad', had', hp'⟩ => h35.ld (j := 1) rfl ?_)
      have l33 : p33.block < w5.heap.size := by
        rw [hp, add_block]
        exact ba ad had (by rw [spl_len]; omega)
      have l35 : p35.block < w5.heap.size := by
        rw [hp', add_block]
        exact bb ad' had' (by rw [spl_len]; omega)
      have hsum : IntKind.i64.wrap (Y1 i.toNat + Y2 i.toNat) = Y1 i.toNat + Y2 i.toNat := w64 (by omega) (by omega)
      refine use_same (v := G1 i.toNat) (by
        have := mod_c w7 (Y1 i.toNat + Y2 i.toNat) (by omega) (by omega)
        rw [← hsum] at this
        rw [hsum] at this
        show callC _ _ #[.int .i64 (IntKind.i64.wrap (Y1 i.toNat + Y2 i.toNat))] _ _ _
        rw [hsum]
        exact this) ⟨h35.cj (j := 1) rfl, h33.cj (j := 1) rfl, nwL fun b38 w9 hb38 q9 g9 _ l9 => ?_⟩
      have h35' := h35.keep q9 id
      have h33' := h33.keep q9 id
      refine ⟨h35'.cj (j := 1) rfl, h33'.cj (j := 1) rfl, ?_⟩
      have hbr : Rd w9 pt 2 (⟨some ⟨b38, 0, none⟩, 1, 1⟩ : Sl) [(⟨i + 1, G1 i.toNat⟩ : Pt)] := pt_row hb38 rfl rfl
      have O9 := O7.quiet q9
      refine (oA7.keepQ q9).app apS hbr pt_len (by decide) pt_one (by unfold maxLen; rw [hpl]; simp; omega) (by rw [hpl]; simp; omega) fun r39 w10 F' o10 _ st10 => ?_
      have esn : rowP (i.toNat + 1) G1 = rowP i.toNat G1 ++ [(⟨i + 1, G1 i.toNat⟩ : Pt)] := by rw [rowP_snoc, hiI]
      rw [← List.flatMap_append, ← esn] at o10
      exact ⟨(h35'.keep st10.only (O9.old (i := 0) l35)).cj (j := 1) rfl, (h33'.keep st10.only (O9.old (i := 0) l33)).cj (j := 1) rfl, F', G, o10, O9.s0 st10, (oB7.keepQ q9).keep st10.only O9.d10⟩
    rintro l40 w11 ⟨F', G', oA11, O11, oB11⟩
    refine (O11.rd ra ba).ixx i0 hx1 fun p41 h41 _ => h41.ld (j := 1) rfl ?_
    have hsum : IntKind.i64.wrap (Y1 i.toNat + y) = Y1 i.toNat + y := w64 (by omega) (by omega)
    refine use_same (v := G2 i.toNat) (by
      show callC _ _ #[.int .i64 (IntKind.i64.wrap (Y1 i.toNat + y))] _ _ _
      rw [hsum]
      exact mod_c w11 (Y1 i.toNat + y) (by omega) (by omega)) ?_
    refine oB11.push (news := pt ⟨i + 1, G2 i.toNat⟩) apS rfl rfl (by unfold maxLen; omega) (by omega) fun r45 w14 H o14 _ st14 => ?_
    refine ⟨⟨by (try dsimp only); omega, by (try dsimp only); omega, F', H, O11.s1 st14, ?_, ?_⟩, by (try dsimp only); omega⟩
    · (try dsimp only)
      rw [toNat_succ i0]
      exact oA11.keep st14.only O11.d01
    · (try dsimp only)
      rw [toNat_succ i0, rowP_snoc, List.flatMap_append, hiI]
      exact o14
  have hi : ¬ i < n := of_decide_eq_false hi
  rw [show i.toNat = n.toNat by omega] at oA oB
  have hpr := oA.rd pt_len (by decide)
  have hqr := oB.rd pt_len (by decide)
  have Q6 : Quiet w5 w6 := Quiet.ofBelow O6.bl
  have P1 : IsP k.toNat fun z => splF x k.toNat e z + splF y k.toNat f z := (splF_P x e (by omega)).add (splF_P y f (by omega))
  have P2 : IsP k.toNat fun z => splF x k.toNat e z + y := (splF_P x e (by omega)).add ((IsP.const y).mono (by omega))
  have T1 : Thru (fun z => splF x k.toNat e z + splF y k.toNat f z) (rowP n.toNat G1) := rowP_thru fun j _ => ((cgm _).trans ((cgm _).add (cgm _))).symm
  have T2 : Thru (fun z => splF x k.toNat e z + y) (rowP n.toNat G2) := rowP_thru fun j _ => ((cgm _).trans ((cgm _).add (cg.refl y))).symm
  have W1 : WrongP (rowP n.toNat G1) k = 0 := rowP_w (by omega) (by omega) fun j => mod_fld _
  have W2 : WrongP (rowP n.toNat G2) k = 0 := rowP_w (by omega) (by omega) fun j => mod_fld _
  refine (join_c w6 p _ k hpr oA.cap (by rw [rowP_len]; omega)).use ?_
  rintro r46 w15 ⟨j1, q15⟩
  obtain ⟨a1, a2, a3⟩ := join_on j1 W1 (by rw [rowP_len]; omega) P1 T1
  refine (join_c w15 q _ k (hqr.keepQ q15) oB.cap (by rw [rowP_len]; omega)).use ?_
  rintro r47 w16 ⟨j2, q16⟩
  obtain ⟨b1, b2, b3⟩ := join_on j2 W2 (by rw [rowP_len]; omega) P2 T2
  (try dsimp only at a2 b2)
  rw [splF_0, splF_0] at a2
  rw [splF_0] at b2
  have x1 := hxf.1
  have x2 := hxf.2
  have y1 := hyf.1
  have y2 := hyf.2
  have hxy : IntKind.i64.wrap (x + y) = x + y := w64 (by omega) (by omega)
  have a4 : r46.1 = (x + y) % 2147483647 := fld_eq (a2.trans (cgm _).symm) a1 (mod_fld _)
  have b4 : r47.1 = (x + y) % 2147483647 := fld_eq (b2.trans (cgm _).symm) b1 (mod_fld _)
  rw [hxy]
  refine jn_t (W := w16) (by rw [a3, b3]; rfl) (use_same (mod_c w16 (x + y) (by omega) (by omega)) ⟨decide_eq_true a4, Only.refl _ _⟩) fun w18 q18 => ?_
  refine jn_t (W := w18) rfl (use_same (mod_c w18 (x + y) (by omega) (by omega)) ⟨decide_eq_true b4, Only.refl _ _⟩) fun w20 q20 => ?_
  exact ⟨rfl, ((((Q5.tr Q6).tr q15).tr q16).tr q18).tr q20⟩
end Go.Proofs.Ytdcbmadmcmjopaa
