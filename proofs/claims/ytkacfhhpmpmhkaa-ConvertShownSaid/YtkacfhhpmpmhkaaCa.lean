import Derived.Test.YtkacfhhpmpmhkaaPd
import Derived.Test.YtkacfhhpmpmhkaaQueue
namespace Go.Proofs.Ytkacfhhpmpmhkaa
open Go.Dec Go.RowKit
set_option maxHeartbeats 400000
set_option maxRecDepth 10000

structure Ch where
  src : ByteArray
  dst : ByteArray
  most : Int
def ch (x : Ch) : List Value := [.string x.src, .string x.dst, .int .i64 x.most]
theorem ch_len (x : Ch) : (ch x).length = 3 := rfl
theorem ch_one (x : Ch) : (ch x).all Value.oneCell' = true := rfl
def chv (x : Ch) : Value := .agg #[.string x.src, .string x.dst, .int .i64 x.most]
def cht (x : Ch) : ByteArray × ByteArray × Int := (x.src, x.dst, x.most)
theorem ch_ld {w : World} {p : Addr} {x : Ch} {K : ByteArray → ByteArray → Int → Prop} (h : AtC w p (ch x)) (k : K x.src x.dst x.most) :
    ld Value.string (p.add 0) w fun x0 => ld Value.string (p.add 1) w fun x1 => ld (Value.int .i64) (p.add 2) w fun x2 => K x0 x1 x2 :=
  h.ld (j := 0) rfl (h.ld (j := 1) rfl (h.ld (j := 2) rfl k))
def IsCh (w : World) (b : Nat) (x : Ch) : Prop := Blk w b 36 (ch x).toArray
theorem IsCh.at {w : World} {b : Nat} {x : Ch} (h : IsCh w b x) : AtC w (Addr.mk b 0 none) (ch x) := fun j u hu => by
  unfold IsCh at h
  rw [mk_add, h.cell]
  simpa using hu
theorem IsCh.keepQ {w w' : World} {b : Nat} {x : Ch} (h : IsCh w b x) (q : Quiet w w') : IsCh w' b x := Blk.keepQ h q
theorem ch_box {z0 z1 z2 : Value} {w : World} {x : Ch} {K : Nat → World → Prop} (k : ∀ b w', IsCh w' b x → Quiet w w' → w.heap.size ≤ b → b < w'.heap.size → K b w') :
    nw 36 #[z0, z1, z2] w fun b w1 => st (Addr.mk b 0 none) [.string x.src, .string x.dst, .int .i64 x.most] w1 fun w2 => K b w2 :=
  box_all rfl k
def okCh (x : Ch) : Prop := x.src.size ≤ maxLen ∧ x.dst.size ≤ maxLen ∧ i64 x.most
def ch_cells (w : World) (p : Addr) (x : Ch) : Prop := w.cell? (p.add 0) = some (.string x.src) ∧ w.cell? (p.add 1) = some (.string x.dst) ∧ w.cell? (p.add 2) = some (.int .i64 x.most)
theorem ch_cj {w : World} {p : Addr} {x : Ch} (h : AtC w p (ch x)) : ch_cells w p x := ⟨h.cj (j := 0) rfl, h.cj (j := 1) rfl, h.cj (j := 2) rfl⟩
theorem ch_row {w : World} {b n : Nat} {cs : Array Value} {l : List Ch} (h : Blk w b 36 cs) (hn : n = l.length) (hc : cs = (l.flatMap ch).toArray) : Rd w ch 3 (⟨some ⟨b, 0, none⟩, n, n⟩ : Sl) l := by
  subst hc
  refine ⟨hn, fun i u hu => ⟨_, rfl, fun j v hv => ?_⟩⟩
  rw [mk_add, mk_add, h.cell]
  simpa using flat_at ch_len hu hv

theorem k9 : KeyOK Try.prog 9 .string Value.string := keyOK_str (by kernel_rfl)
theorem u48 : Try.prog.underlying 48 = some (.map 9 24) := by kernel_rfl
theorem zv24 : (Try.prog.info? 24).bind (·.zero) = some (Sl.v Sl.nil) := by kernel_rfl
theorem ap23 : appOK Try.prog 23 9 1 16 = true := by kernel_rfl
theorem ap24 : appOK Try.prog 24 3 1 8 = true := by kernel_rfl
theorem ap22 : appOK Try.prog 22 36 3 40 = true := by kernel_rfl
/-- natural numbers as numbers of the program -/
def nz (l : List Nat) : List Int := l.map fun (i : Nat) => (i : Int)
theorem nz_len (l : List Nat) : (nz l).length = l.length := by simp [nz]
theorem nz_inj {a b : List Nat} (h : nz a = nz b) : a = b := by
  induction a generalizing b with
  | nil => cases b <;> simp_all [nz]
  | cons x a ih =>
    cases b with
    | nil => simp [nz] at h
    | cons y b =>
      simp only [nz, List.map_cons, List.cons.injEq] at h
      rw [ih h.2, show x = y by omega]
theorem nz_app (a b : List Nat) : nz (a ++ b) = nz a ++ nz b := by simp [nz]

theorem has_c (w : World) (s : Sl) (l : List ByteArray) (n : ByteArray) (h : Rd w cb 1 s l) (hl : l.length ≤ 1000000) :
    callC Try.prog 12 #[s.v, .string n] (fun (r : Bool) => .bool r) w fun r w' => r = decide (n ∈ l) ∧ w = w' := by
  have hsl := h.len
  refine D12 _ _ w _ ?_
  unfold F12
  refine ⟨fun i w' => 0 ≤ i ∧ i ≤ l.length ∧ n ∉ l.take i.toNat ∧ w = w', fun i _ => (l.length - i).toNat, ⟨by omega, by omega, by simp, rfl⟩, ?_⟩
  rintro i w' ⟨i0, i1, hn, rfl⟩
  refine ⟨fun hi => ?_, fun hi => ?_⟩
  · have hlt : i < l.length := by rw [hsl] at hi; exact of_decide_eq_true hi
    obtain ⟨x, hx⟩ := getq i0 hlt
    refine h.ixx i0 hx fun p hat _ => hat.ld0 rfl ⟨fun hc => ?_, fun hc => ?_⟩
    · rw [beqS_eq] at hc
      have : x = n := of_decide_eq_true hc
      subst this
      exact ⟨(decide_eq_true (List.mem_of_getElem? hx)).symm, rfl⟩
    · rw [beqS_eq] at hc
      have hne : x ≠ n := of_decide_eq_false hc
      rw [w64 (by omega) (by omega)]
      refine ⟨⟨by omega, by omega, ?_, rfl⟩, by (try dsimp only); omega⟩
      rw [toNat_succ i0, take_next hx]
      simp only [List.mem_append, List.mem_singleton, not_or]
      exact ⟨hn, fun e => hne e.symm⟩
  · have hge : l.length ≤ i.toNat := by have := of_decide_eq_false hi; omega
    rw [List.take_of_length_le hge] at hn
    exact ⟨(decide_eq_false hn).symm, rfl⟩
theorem iclone_c (w : World) (s : Sl) (l : List Int) (h : Rd w ci 1 s l) (hl : l.length ≤ 1000000) : callC Try.prog 22 #[s.v] Sl.v w fun r w' => ∃ F, OwnF w' F 3 1 r (l.flatMap ci) ∧ Fresh w w' F := by
  refine D22 _ w _ ?_
  unfold F22
  refine ⟨fun g => ?_, fun g => ?_⟩
  · obtain ⟨rfl, _⟩ := h.zero (Option.isNone_iff_eq_none.1 g)
    exact ⟨_, OwnF.nil _ _ _ _, Fresh.none w⟩
  · exact rn_copy ap24 h ci1 (by decide) cione (by unfold maxLen; omega) (by omega) fun r w' F o _ f => ⟨F, o, f⟩
theorem ints_c (w : World) (s t : Sl) (a b : List Int) (h : Rd w ci 1 s a) (h' : Rd w ci 1 t b) (hl : a.length ≤ 1000000) :
    callC Try.prog 13 #[s.v, t.v] (fun (r : Bool) => .bool r) w fun r w' => r = decide (a = b) ∧ Quiet w w' := by
  have hsl := h.len
  have htl := h'.len
  refine D13 _ _ w _ ?_
  unfold F13
  refine ⟨fun g => ⟨(decide_eq_false fun e => nd g (by rw [hsl, htl, e])).symm, Only.refl _ _⟩, fun g => ?_⟩
  have hlen := nt g
  refine ⟨fun i w' => 0 ≤ i ∧ i ≤ a.length ∧ a.take i.toNat = b.take i.toNat ∧ Quiet w w', fun i _ => (a.length - i).toNat, ⟨by omega, by omega, by simp, Only.refl _ _⟩, ?_⟩
  rintro i w1 ⟨i0, i1, hn, q⟩
  refine ⟨fun hi => ?_, fun hi => ?_⟩
  · have hi : i < (s.len : Int) := of_decide_eq_true hi
    obtain ⟨x, hx⟩ := getq (l := a) i0 (by omega)
    obtain ⟨y, hy⟩ := getq (l := b) i0 (by omega)
    refine jn_any' (W := w) (!decide (x = y)) ?_ fun w2 q2 => ?_
    · show tk _ _
      unfold tk
      replace q := q.tr (Only.drew (fun _ => False) _)
      exact (h.keepQ q).ixx i0 hx fun p hat _ => hat.ld0 rfl ((h'.keepQ q).ixx i0 hy fun p hat _ => hat.ld0 rfl ⟨rfl, q⟩)
    refine ⟨fun g => ⟨(decide_eq_false fun e => nd g ?_).symm, q2⟩, fun g => ?_⟩
    · rw [e, hy] at hx
      injection hx with hx
      exact hx.symm
    · rw [w64 (by omega) (by omega)]
      refine ⟨⟨by omega, by omega, ?_, q2⟩, by (try dsimp only); omega⟩
      rw [toNat_succ i0, take_next hx, take_next hy, hn, nt g]
  · have hi : ¬ i < (s.len : Int) := of_decide_eq_false hi
    rw [List.take_of_length_le (by omega), List.take_of_length_le (by omega)] at hn
    exact ⟨(decide_eq_true hn).symm, q⟩
theorem few_c (w : World) (s t : Sl) (L : List Ch) (u : ByteArray) (T : List ByteArray) (h : Rd w ch 3 s L) (h' : Rd w cb 1 t T) :
    callC Try.prog 9 #[s.v, .string u, t.v] (fun (r : Bool) => .bool r) w fun r w' => (r = true → L.length ≤ 12 ∧ T.length ≤ 20) ∧ w = w' := by
  have hsl := h.len
  have htl := h'.len
  refine D9 _ _ _ w _ ?_
  unfold F9
  refine ⟨fun i w' => 0 ≤ i ∧ i ≤ L.length ∧ w = w', fun i _ => (L.length - i).toNat, ⟨by omega, by omega, rfl⟩, ?_⟩
  rintro i w1 ⟨i0, i1, rfl⟩
  refine ⟨fun hi => ?_, fun _ => ?_⟩
  · rw [Bool.and_eq_true, decide_eq_true_eq, decide_eq_true_eq] at hi
    obtain ⟨x, hx⟩ := getq (l := L) i0 (by omega)
    refine h.ixx i0 hx fun p hat _ => hat.ld (j := 0) rfl (jp.mk (fun _ => True) ⟨fun _ => trivial, fun _ => h.ixx i0 hx fun p hat _ => hat.ld (j := 1) rfl trivial⟩ fun c _ => ⟨fun _ => ⟨fun e => (by cases e), rfl⟩, fun _ => ?_⟩)
    rw [w64 (by omega) (by omega)]
    exact ⟨⟨by omega, by omega, rfl⟩, by (try dsimp only); omega⟩
  refine ⟨fun i w' => 0 ≤ i ∧ i ≤ T.length ∧ w = w', fun i _ => (T.length - i).toNat, ⟨by omega, by omega, rfl⟩, ?_⟩
  rintro i w1 ⟨i0, i1, rfl⟩
  refine ⟨fun hi => ?_, fun _ => ?_⟩
  · rw [Bool.and_eq_true, decide_eq_true_eq, decide_eq_true_eq] at hi
    obtain ⟨x, hx⟩ := getq (l := T) i0 (by omega)
    refine h'.ixx i0 hx fun p hat _ => hat.ld0 rfl ⟨fun _ => ⟨fun e => (by cases e), rfl⟩, fun _ => ?_⟩
    rw [w64 (by omega) (by omega)]
    exact ⟨⟨by omega, by omega, rfl⟩, by (try dsimp only); omega⟩
  · refine ⟨fun e => ?_, rfl⟩
    simp only [Bool.and_eq_true, decide_eq_true_eq] at e
    omega

/-! ### ways -/
/-- where a list of indices leads -/
def leadP (L : List Ch) (n : Int) : ByteArray → List Int → ByteArray × Bool
  | u, [] => (u, decide (0 ≤ n))
  | u, k :: r => if k < 0 then (ByteArray.mk #[], false) else match L[k.toNat]? with
    | none => (ByteArray.mk #[], false)
    | some c => if c.src ≠ u ∨ c.most < n then (ByteArray.mk #[], false) else leadP L n c.dst r
theorem lead_c (w : World) (s t : Sl) (L : List Ch) (u : ByteArray) (way : List Int) (n : Int) (h : Rd w ch 3 s L) (h' : Rd w ci 1 t way) (hl : way.length ≤ 1000000) :
    callC Try.prog 11 #[s.v, .string u, t.v, .int .i64 n] (fun (r : ByteArray × Bool) => .tuple #[.string r.1, .bool r.2]) w fun r w' => r = leadP L n u way ∧ w = w' := by
  have hsl := h.len
  have htl := h'.len
  refine D11 _ _ _ _ w _ ?_
  unfold F11
  refine ⟨fun l w' => 0 ≤ l.2 ∧ l.2 ≤ way.length ∧ leadP L n u way = leadP L n l.1 (way.drop l.2.toNat) ∧ w = w', fun l _ => (way.length - l.2).toNat, ⟨by simp, by simp, rfl, rfl⟩, ?_⟩
  rintro ⟨v, i⟩ w1 ⟨i0, i1, he, rfl⟩
  dsimp only at i0 i1 he ⊢
  refine ⟨fun hi => ?_, fun hi => ?_⟩
  · have hi : i < (t.len : Int) := of_decide_eq_true hi
    obtain ⟨k, hk⟩ := getq (l := way) i0 (by omega)
    have hd : way.drop i.toNat = k :: way.drop (i.toNat + 1) := by
      obtain ⟨hj, e⟩ := List.getElem?_eq_some_iff.1 hk
      rw [List.drop_eq_getElem_cons hj, e]
    rw [hd] at he
    refine h'.ixx i0 hk fun p hat _ => hat.ld0 rfl ⟨fun g => ?_, fun g => ?_⟩
    · rw [Bool.or_eq_true, decide_eq_true_eq, decide_eq_true_eq] at g
      refine ⟨?_, rfl⟩
      rw [he, leadP]
      split
      · rfl
      · rw [List.getElem?_eq_none (by omega)]
    · rw [Bool.or_eq_false_iff, decide_eq_false_iff_not, decide_eq_false_iff_not] at g
      obtain ⟨c, hc⟩ := getq (l := L) (i := k) (by omega) (by omega)
      have hstep : leadP L n v (k :: way.drop (i.toNat + 1)) = if c.src ≠ v ∨ c.most < n then (ByteArray.mk #[], false) else leadP L n c.dst (way.drop (i.toNat + 1)) := by
        rw [leadP, if_neg (by omega), hc]
      rw [hstep] at he
      refine h.ixx (by omega) hc fun p hat _ => hat.ld (j := 0) rfl (jp_or (v := decide (c.most < n)) (fun _ J hJ => h.ixx (by omega) hc fun p hat _ => hat.ld (j := 2) rfl hJ) ⟨fun g => ⟨?_, rfl⟩, fun g => ?_⟩)
      · rw [he, if_pos]
        rw [Bool.or_eq_true, decide_eq_true_eq, beqS_eq, Bool.not_eq_true', decide_eq_false_iff_not] at g
        exact g
      · rw [Bool.or_eq_false_iff, decide_eq_false_iff_not, beqS_eq, Bool.not_eq_false', decide_eq_true_eq] at g
        refine h.ixx (by omega) hc fun p hat _ => hat.ld (j := 1) rfl ?_
        rw [w64 (by omega) (by omega)]
        refine ⟨⟨by (try dsimp only); omega, by (try dsimp only); omega, ?_, rfl⟩, by (try dsimp only); omega⟩
        rw [he, if_neg (fun c => c.elim (fun c => c g.1) g.2), toNat_succ i0]
  · have hi : ¬ i < (t.len : Int) := of_decide_eq_false hi
    rw [List.drop_of_length_le (by omega)] at he
    exact ⟨he.symm, rfl⟩
end Go.Proofs.Ytkacfhhpmpmhkaa
