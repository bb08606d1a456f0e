import Derived.Test.YtadlnbdelkbboaaPi
import Derived.Test.YtadlnbdelkbboaaPl
namespace Go.Proofs.Ytadlnbdelkbboaa
open Go.Dec Go.RowKit
set_option maxHeartbeats 1600000
set_option maxRecDepth 10000

/-- the rules of the first one -/
def rules (a x : Ap) : Prop := x.name = a.name ∧ x.join = a.join ∧ x.history = a.history ∧ x.remove = a.remove ∧ x.batch = a.batch ∧ x.rate = a.rate ∧ x.down = a.down ∧ x.window = a.window ∧ x.keep = a.keep
theorem keeps_c (w : World) (a b : Ap) (s t : Sl) (h1 : Rd w cb 1 s a.types) (h2 : Rd w cb 1 t b.types) (k1 : s.len ≤ s.cap) (k2 : t.len ≤ t.cap) :
    callC Try.prog 6 #[pfv (pfOf a s), pfv (pfOf b t)] (fun (r : Bool) => .bool r) w fun r w' => r = true ∧ Quiet w w' := by
  refine D6 _ _ _ _ _ _ _ _ _ _ _ _ _ _ _ _ _ _ _ _ _ _ _ _ _ _ _ _ _ _ _ _ _ _ _ _ _ _ _ _ _ _ _ _ w _ ?_
  unfold F6
  refine nwL fun b1 w1 hb1 q1 _ _ _ => nwL fun b2 W hb2 q2 _ _ _ => ?_
  have hb1 : IsPf W b1 (pfOf a s) := Blk.keepQ hb1 q2
  have hb2 : IsPf W b2 (pfOf b t) := hb2
  have q0 := q1.tr q2
  replace h1 := h1.keepQ q0
  replace h2 := h2.keepQ q0
  have hA : ∀ w', Quiet W w' → AtC w' (Addr.mk b1 0 none) (pf (pfOf a s)) := fun w' q => (hb1.keepQ q).at
  have hB : ∀ w', Quiet W w' → AtC w' (Addr.mk b2 0 none) (pf (pfOf b t)) := fun w' q => (hb2.keepQ q).at
  refine (small_c W).use ?_
  rintro _ w4 ⟨rfl, q⟩
  repeat (first | refine pf_ld (hA _ q) ?_ | refine pf_ld (hB _ q) ?_)
  refine (few3_c _ a b a s t s (h1.keepQ q) (h2.keepQ q) (h1.keepQ q)).use ?_
  rintro r71 w5 ⟨hfew, q5⟩
  replace q := q.tr q5
  clear q5
  refine jn_orW (v := !decide (CheckA a = 0 ∧ CheckA b = 0 ∧ CheckA a = 0)) q (fun _ => ?_) fun w7 q => ?_
  · repeat (first | refine pf_ld (hA _ q) ?_ | refine pf_ld (hB _ q) ?_)
    refine (fine3_c _ a b a s t s (h1.keepQ q) (h2.keepQ q) (h1.keepQ q) k1 k2 k1).use ?_
    rintro _ w6 ⟨rfl, q6⟩
    exact ⟨rfl, q.tr q6⟩
  refine jp_or (v := decide (12 < ((s.len : Int) + t.len))) (fun g J hJ => ?_) ⟨fun _ => ⟨rfl, q0.tr q⟩, fun g => ?_⟩
  · have hg : r71 = true := by
      rw [Bool.or_eq_false_iff, Bool.not_eq_false'] at g
      exact g.1
    obtain ⟨la, lb, _⟩ := hfew hg
    have l1 := h1.len
    have l2 := h2.len
    refine (hA _ q).ld (j := 12) rfl ((hB _ q).ld (j := 12) rfl ?_)
    show J (decide (12 < IntKind.i64.wrap ((s.len : Int) + (t.len : Int))))
    rw [w64 (by omega) (by omega)]
    exact hJ
  rw [Bool.or_eq_false_iff, decide_eq_false_iff_not] at g
  obtain ⟨g, g12⟩ := g
  have hg : r71 = true ∧ (CheckA a = 0 ∧ CheckA b = 0 ∧ CheckA a = 0) := by
    rw [Bool.or_eq_false_iff, Bool.not_eq_false', Bool.not_eq_false', decide_eq_true_eq] at g
    exact g
  obtain ⟨la, lb, lc⟩ := hfew hg.1
  have fa := ((fine_iff a).1 hg.2.1).1
  have fb := ((fine_iff b).1 hg.2.2.1).1
  have lm := meet_len a b
  have lj := join_len a b
  have l1 := h1.len
  have l2 := h2.len
  have cm : CheckA (meetA a b) = 0 := (fine_iff _).2 ⟨fine_meet fa fb, by omega⟩
  have cj : CheckA (joinA a b) = 0 := (fine_iff _).2 ⟨fine_join fa fb, by omega⟩
  have km := meet_rules a b
  refine jn.mk (fun r w' => ∃ x y : Pf, ∃ X Y : Ap, ∃ sx sy, x = pfOf X sx ∧ y = pfOf Y sy ∧ CheckA X = 0 ∧ CheckA Y = 0 ∧ rules a X ∧ rules a Y ∧ sx.len ≤ sx.cap ∧ sy.len ≤ sy.cap ∧ Rd w' cb 1 sx X.types ∧ Rd w' cb 1 sy Y.types ∧ Rd w' pf 22 r [x, y] ∧ Quiet W w') ?_ ?_
  · show tk _ _
    unfold tk
    replace q := q.tr (Only.drew (fun _ => False) _)
    repeat (first | refine pf_ld (hA _ q) ?_ | refine pf_ld (hB _ q) ?_)
    refine (meet_c _ a b s t (h1.keepQ q) (h2.keepQ q) (by omega) (by omega)).use ?_
    rintro _ w8 ⟨_, rfl, sl, Fl, rfl, ol, fl⟩
    replace q := q.tr fl.q
    repeat (refine ⟨by first | exact pf_cj (hA _ q) | exact pf_cj (hB _ q), ?_⟩)
    refine (join_c _ a b s t (h1.keepQ q) (h2.keepQ q) (by omega) (by omega)).use ?_
    rintro _ w9 ⟨_, rfl, sh, Fh, rfl, oh, fh⟩
    replace q := q.tr fh.q
    refine nwL fun b10 w10 hb10 q10 _ _ _ => ?_
    exact ⟨pfOf (meetA a b) sl, pfOf (joinA a b) sh, _, _, sl, sh, rfl, rfl, cm, cj, km, ⟨rfl, rfl, rfl, rfl, rfl, rfl, rfl, rfl, rfl⟩, ol.cap, oh.cap, ((ol.keepQ fh.q).keepQ q10).rd cb1 (by decide), (oh.keepQ q10).rd cb1 (by decide), pf_row hb10 rfl rfl, q.tr q10⟩
  rintro r W3 ⟨x, y, X, Y, sx, sy, ex, ey, cx, cy, rx, ry, kx, ky, hx, hy, hr, q⟩
  have hA3 : ∀ w', Quiet W3 w' → AtC w' (Addr.mk b1 0 none) (pf (pfOf a s)) := fun w' q' => hA w' (q.tr q')
  have Q := q0.tr q
  have hlen := hr.len
  have key : ∀ z ∈ [x, y], ∃ Z sz, z = pfOf Z sz ∧ CheckA Z = 0 ∧ rules a Z ∧ sz.len ≤ sz.cap ∧ Rd W3 cb 1 sz Z.types := by
    intro z hz
    simp only [List.mem_cons, List.not_mem_nil, or_false] at hz
    rcases hz with rfl | rfl
    · exact ⟨X, sx, ex, cx, rx, kx, hx⟩
    · exact ⟨Y, sy, ey, cy, ry, ky, hy⟩
  refine ⟨fun i w' => 0 ≤ i ∧ i ≤ 2 ∧ Quiet W3 w', fun i _ => (2 - i).toNat, ⟨by omega, by omega, Only.refl _ _⟩, ?_⟩
  rintro i w5 ⟨i0, i1, q5⟩
  refine ⟨fun hi => ?_, fun _ => ⟨rfl, Q.tr q5⟩⟩
  have hi : i < (r.len : Int) := of_decide_eq_true hi
  have hlen : r.len = 2 := hlen
  obtain ⟨z, hz⟩ := getq (l := [x, y]) i0 (by simp; omega)
  obtain ⟨Z, sz, rfl, cz, rz, kz, hzt⟩ := key z (List.mem_of_getElem? hz)
  refine (hr.keepQ q5).ixx i0 hz fun p hat _ => pf_ld hat (pf_box (x := pfOf Z sz) fun b6 w6 hb6 q6 _ _ => ?_)
  replace q5 := q5.tr q6
  have hZ := hb6.at
  have hAA := hA3 _ q5
  obtain ⟨z1, z2, z3, z4, z5, z6, z7, z8, z9⟩ := rz
  refine hZ.ld (j := 0) rfl (hAA.ld (j := 0) rfl ?_)
  have hs : beqS (pfOf Z sz).name (pfOf a s).name = true := by
    show beqS Z.name a.name = true
    rw [z1]
    simp [beqS]
  refine jp.val true ⟨fun _ => hZ.ld (j := 13) rfl (hAA.ld (j := 13) rfl (decide_eq_true z2)), fun g => absurd hs (by rw [g]; exact Bool.false_ne_true)⟩ ?_
  refine jp.val true ⟨fun _ => hZ.ld (j := 14) rfl (hAA.ld (j := 14) rfl (decide_eq_true z3)), fun g => (by cases g)⟩ ?_
  refine jp.val true ⟨fun _ => hZ.ld (j := 15) rfl (hAA.ld (j := 15) rfl (decide_eq_true z4)), fun g => (by cases g)⟩ ?_
  refine jp.val true ⟨fun _ => hZ.ld (j := 17) rfl (hAA.ld (j := 17) rfl (beq_iff_eq.2 z5)), fun g => (by cases g)⟩ ?_
  refine jp.val true ⟨fun _ => hZ.ld (j := 18) rfl (hAA.ld (j := 18) rfl (decide_eq_true z6)), fun g => (by cases g)⟩ ?_
  refine jp.val true ⟨fun _ => hZ.ld (j := 19) rfl (hAA.ld (j := 19) rfl (decide_eq_true z7)), fun g => (by cases g)⟩ ?_
  refine jp.val true ⟨fun _ => hZ.ld (j := 20) rfl (hAA.ld (j := 20) rfl (decide_eq_true z8)), fun g => (by cases g)⟩ ?_
  refine jp.val true ⟨fun _ => hZ.ld (j := 21) rfl (hAA.ld (j := 21) rfl (decide_eq_true z9)), fun g => (by cases g)⟩ ?_
  refine pf_ld hZ ((check_c _ Z sz (hzt.keepQ q5) kz).use ?_)
  rintro _ w7 ⟨rfl, q7⟩
  rw [cz]
  refine ⟨fun g => (by cases g), fun _ => ?_⟩
  rw [w64 (by omega) (by omega)]
  exact ⟨⟨by omega, by omega, q5.tr q7⟩, by (try dsimp only); omega⟩
theorem keeps (W : World) (x : Pf) (l : List ByteArray) (hx : Rd W cb 1 x.types l) (kx : x.types.len ≤ x.types.cap) (y : Pf) (m : List ByteArray) (hy : Rd W cb 1 y.types m) (ky : y.types.len ≤ y.types.cap) :
    callC Try.prog 6 #[pfv x, pfv y] (fun (r : Bool) => .bool r) W fun r w' => r = true ∧ Below W.heap.size W w' :=
  (keeps_c W (apOf x l) (apOf y m) x.types y.types hx hy kx ky).use fun _ _ h => ⟨h.1, bq h.2⟩
end Go.Proofs.Ytadlnbdelkbboaa

