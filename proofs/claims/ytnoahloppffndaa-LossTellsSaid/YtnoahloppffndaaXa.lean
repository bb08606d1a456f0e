import Derived.Test.YtnoahloppffndaaPd
import Derived.Test.YtnoahloppffndaaMade
namespace Go.Proofs.Ytnoahloppffndaa
open Go.Dec Go.RowKit
set_option maxHeartbeats 800000
set_option maxRecDepth 10000

structure Wy where
  how : Int
  finds : Int
deriving DecidableEq
def wy (x : Wy) : List Value := [.int .i64 x.how, .int .i64 x.finds]
theorem wy_len (x : Wy) : (wy x).length = 2 := rfl
theorem wy_one (x : Wy) : (wy x).all Value.oneCell' = true := rfl
def wyv (x : Wy) : Value := .agg #[.int .i64 x.how, .int .i64 x.finds]
def wyt (x : Wy) : Int × Int := (x.how, x.finds)
theorem wy_ld {w : World} {p : Addr} {x : Wy} {K : Int → Int → Prop} (h : AtC w p (wy x)) (k : K x.how x.finds) :
    ld (Value.int .i64) (p.add 0) w fun x0 => ld (Value.int .i64) (p.add 1) w fun x1 => K x0 x1 :=
  h.ld (j := 0) rfl (h.ld (j := 1) rfl k)
def IsWy (w : World) (b : Nat) (x : Wy) : Prop := Blk w b 46 (wy x).toArray
theorem IsWy.at {w : World} {b : Nat} {x : Wy} (h : IsWy w b x) : AtC w (Addr.mk b 0 none) (wy x) := fun j u hu => by
  unfold IsWy at h
  rw [mk_add, h.cell]
  simpa using hu
theorem IsWy.keepQ {w w' : World} {b : Nat} {x : Wy} (h : IsWy w b x) (q : Quiet w w') : IsWy w' b x := Blk.keepQ h q
theorem wy_box {z0 z1 : Value} {w : World} {x : Wy} {K : Nat → World → Prop} (k : ∀ b w', IsWy w' b x → Quiet w w' → w.heap.size ≤ b → b < w'.heap.size → K b w') :
    nw 46 #[z0, z1] w fun b w1 => st (Addr.mk b 0 none) [.int .i64 x.how, .int .i64 x.finds] w1 fun w2 => K b w2 :=
  box_all rfl k
def okWy (x : Wy) : Prop := i64 x.how ∧ i64 x.finds
def wy_cells (w : World) (p : Addr) (x : Wy) : Prop := w.cell? (p.add 0) = some (.int .i64 x.how) ∧ w.cell? (p.add 1) = some (.int .i64 x.finds)
theorem wy_cj {w : World} {p : Addr} {x : Wy} (h : AtC w p (wy x)) : wy_cells w p x := ⟨h.cj (j := 0) rfl, h.cj (j := 1) rfl⟩
structure OBWy (W w : World) (b : Nat) (F : Nat → Prop) (x : Wy) : Prop where
  h : IsWy w b x
  O : Objs W w (two F (fun y => y = b))
theorem OBWy.q {W w : World} {b : Nat} {F : Nat → Prop} {x : Wy} (h : OBWy W w b F x) : Quiet W w := Quiet.ofBelow h.O.bl
theorem OBWy.keepQ {W w w' : World} {b : Nat} {F : Nat → Prop} {x : Wy} (h : OBWy W w b F x) (q : Quiet w w') : OBWy W w' b F x := ⟨h.h.keepQ q, h.O.quiet q⟩
theorem OBWy.own {W w w' : World} {b : Nat} {F F' : Nat → Prop} {x : Wy} (h : OBWy W w b F x) (st : Stp F w F' w') : OBWy W w' b F' x := ⟨Blk.keep h.h st.only (h.O.d10 b rfl), h.O.s0 st⟩
theorem OBWy.start {W w : World} {b : Nat} {x : Wy} (h : IsWy w b x) (q : Quiet W w) (g : W.heap.size ≤ b) (l : b < w.heap.size) : OBWy W w b (fun _ => False) x := ⟨h, (Objs.start W).none2.n1 ⟨q, fun y hy => by subst hy; exact ⟨g, l⟩⟩⟩
theorem wy_st {w : World} {b : Nat} {cs : Array Value} {x : Wy} {K : World → Prop} (h : Blk w b 46 cs) (hs : cs.size = 2) (k : ∀ w', IsWy w' b x → Only (fun y => y = b) w w' → w'.heap.size = w.heap.size → K w') : Go.Dec.st (Addr.mk b 0 none) [.int .i64 x.how, .int .i64 x.finds] w K := by
  refine h.st0 (by rw [hs]; exact Nat.le_refl 2) fun w2 hb2 on2 s2 => ?_
  rw [splice_all (by rw [hs]; rfl)] at hb2
  exact k w2 hb2 on2 s2
theorem OBWy.st_how {W w : World} {b : Nat} {F : Nat → Prop} {x : Wy} {v : Int} {K : World → Prop} (M : OBWy W w b F x) (k : ∀ w', OBWy W w' b F { x with how := v } → Only (fun y => y = b) w w' → K w') : Go.Dec.st ((Addr.mk b 0 none).add 0) [.int .i64 v] w K :=
  Blk.st (i := 0) (o := 0) M.h (by show 0 + 0 + 1 ≤ 2; decide) fun w' hb on _ => k w' ⟨hb, M.O.s1 ⟨on, fun y e => .inl e⟩⟩ on
theorem OBWy.st_finds {W w : World} {b : Nat} {F : Nat → Prop} {x : Wy} {v : Int} {K : World → Prop} (M : OBWy W w b F x) (k : ∀ w', OBWy W w' b F { x with finds := v } → Only (fun y => y = b) w w' → K w') : Go.Dec.st ((Addr.mk b 0 none).add 1) [.int .i64 v] w K :=
  Blk.st (i := 1) (o := 0) M.h (by show 0 + 1 + 1 ≤ 2; decide) fun w' hb on _ => k w' ⟨hb, M.O.s1 ⟨on, fun y e => .inl e⟩⟩ on
theorem wy_row {w : World} {b n : Nat} {cs : Array Value} {l : List Wy} (h : Blk w b 46 cs) (hn : n = l.length) (hc : cs = (l.flatMap wy).toArray) : Rd w wy 2 (⟨some ⟨b, 0, none⟩, n, n⟩ : Sl) l := by
  subst hc
  refine ⟨hn, fun i u hu => ⟨_, rfl, fun j v hv => ?_⟩⟩
  rw [mk_add, mk_add, h.cell]
  simpa using flat_at wy_len hu hv
theorem AtC.ld2 {α : Type} {enc : α → Value} {w : World} {p : Addr} {cs : List Value} {j k : Nat} {x : α} {K : α → Prop} (h : AtC w p cs) (hj : cs[j + k]? = some (enc x)) (kk : K x) : ld enc ((p.add j).add k) w K := by
  rw [add_add']
  exact h.ld hj kk

structure Lo where
  con : Int
  how : Int
  finds : Int
deriving DecidableEq
def lo (x : Lo) : List Value := [.int .i64 x.con, .int .i64 x.how, .int .i64 x.finds]
theorem lo_len (x : Lo) : (lo x).length = 3 := rfl
theorem lo_one (x : Lo) : (lo x).all Value.oneCell' = true := rfl
def lov (x : Lo) : Value := .agg #[.int .i64 x.con, .int .i64 x.how, .int .i64 x.finds]
def lot (x : Lo) : Int × Int × Int := (x.con, x.how, x.finds)
theorem lo_ld {w : World} {p : Addr} {x : Lo} {K : Int → Int → Int → Prop} (h : AtC w p (lo x)) (k : K x.con x.how x.finds) :
    ld (Value.int .i64) (p.add 0) w fun x0 => ld (Value.int .i64) (p.add 1) w fun x1 => ld (Value.int .i64) (p.add 2) w fun x2 => K x0 x1 x2 :=
  h.ld (j := 0) rfl (h.ld (j := 1) rfl (h.ld (j := 2) rfl k))
def IsLo (w : World) (b : Nat) (x : Lo) : Prop := Blk w b 44 (lo x).toArray
theorem IsLo.at {w : World} {b : Nat} {x : Lo} (h : IsLo w b x) : AtC w (Addr.mk b 0 none) (lo x) := fun j u hu => by
  unfold IsLo at h
  rw [mk_add, h.cell]
  simpa using hu
theorem IsLo.keepQ {w w' : World} {b : Nat} {x : Lo} (h : IsLo w b x) (q : Quiet w w') : IsLo w' b x := Blk.keepQ h q
theorem lo_box {z0 z1 z2 : Value} {w : World} {x : Lo} {K : Nat → World → Prop} (k : ∀ b w', IsLo w' b x → Quiet w w' → w.heap.size ≤ b → b < w'.heap.size → K b w') :
    nw 44 #[z0, z1, z2] w fun b w1 => st (Addr.mk b 0 none) [.int .i64 x.con, .int .i64 x.how, .int .i64 x.finds] w1 fun w2 => K b w2 :=
  box_all rfl k
def okLo (x : Lo) : Prop := i64 x.con ∧ i64 x.how ∧ i64 x.finds
def lo_cells (w : World) (p : Addr) (x : Lo) : Prop := w.cell? (p.add 0) = some (.int .i64 x.con) ∧ w.cell? (p.add 1) = some (.int .i64 x.how) ∧ w.cell? (p.add 2) = some (.int .i64 x.finds)
theorem lo_cj {w : World} {p : Addr} {x : Lo} (h : AtC w p (lo x)) : lo_cells w p x := ⟨h.cj (j := 0) rfl, h.cj (j := 1) rfl, h.cj (j := 2) rfl⟩
theorem lo_row {w : World} {b n : Nat} {cs : Array Value} {l : List Lo} (h : Blk w b 44 cs) (hn : n = l.length) (hc : cs = (l.flatMap lo).toArray) : Rd w lo 3 (⟨some ⟨b, 0, none⟩, n, n⟩ : Sl) l := by
  subst hc
  refine ⟨hn, fun i u hu => ⟨_, rfl, fun j v hv => ?_⟩⟩
  rw [mk_add, mk_add, h.cell]
  simpa using flat_at lo_len hu hv

structure Op where
  how : Int
  finds : Int
  may : Bool
deriving DecidableEq
def op (x : Op) : List Value := [.int .i64 x.how, .int .i64 x.finds, .bool x.may]
theorem op_len (x : Op) : (op x).length = 3 := rfl
theorem op_one (x : Op) : (op x).all Value.oneCell' = true := rfl
def opv (x : Op) : Value := .agg #[.int .i64 x.how, .int .i64 x.finds, .bool x.may]
def opt (x : Op) : Int × Int × Bool := (x.how, x.finds, x.may)
theorem op_ld {w : World} {p : Addr} {x : Op} {K : Int → Int → Bool → Prop} (h : AtC w p (op x)) (k : K x.how x.finds x.may) :
    ld (Value.int .i64) (p.add 0) w fun x0 => ld (Value.int .i64) (p.add 1) w fun x1 => ld Value.bool (p.add 2) w fun x2 => K x0 x1 x2 :=
  h.ld (j := 0) rfl (h.ld (j := 1) rfl (h.ld (j := 2) rfl k))
def IsOp (w : World) (b : Nat) (x : Op) : Prop := Blk w b 55 (op x).toArray
theorem IsOp.at {w : World} {b : Nat} {x : Op} (h : IsOp w b x) : AtC w (Addr.mk b 0 none) (op x) := fun j u hu => by
  unfold IsOp at h
  rw [mk_add, h.cell]
  simpa using hu
theorem IsOp.keepQ {w w' : World} {b : Nat} {x : Op} (h : IsOp w b x) (q : Quiet w w') : IsOp w' b x := Blk.keepQ h q
theorem op_box {z0 z1 z2 : Value} {w : World} {x : Op} {K : Nat → World → Prop} (k : ∀ b w', IsOp w' b x → Quiet w w' → w.heap.size ≤ b → b < w'.heap.size → K b w') :
    nw 55 #[z0, z1, z2] w fun b w1 => st (Addr.mk b 0 none) [.int .i64 x.how, .int .i64 x.finds, .bool x.may] w1 fun w2 => K b w2 :=
  box_all rfl k
def okOp (x : Op) : Prop := i64 x.how ∧ i64 x.finds ∧ True
def op_cells (w : World) (p : Addr) (x : Op) : Prop := w.cell? (p.add 0) = some (.int .i64 x.how) ∧ w.cell? (p.add 1) = some (.int .i64 x.finds) ∧ w.cell? (p.add 2) = some (.bool x.may)
theorem op_cj {w : World} {p : Addr} {x : Op} (h : AtC w p (op x)) : op_cells w p x := ⟨h.cj (j := 0) rfl, h.cj (j := 1) rfl, h.cj (j := 2) rfl⟩
theorem op_row {w : World} {b n : Nat} {cs : Array Value} {l : List Op} (h : Blk w b 55 cs) (hn : n = l.length) (hc : cs = (l.flatMap op).toArray) : Rd w op 3 (⟨some ⟨b, 0, none⟩, n, n⟩ : Sl) l := by
  subst hc
  refine ⟨hn, fun i u hu => ⟨_, rfl, fun j v hv => ?_⟩⟩
  rw [mk_add, mk_add, h.cell]
  simpa using flat_at op_len hu hv

structure Cz where
  is : Bool
  how : Int
  finds : Int
deriving DecidableEq
def cz (x : Cz) : List Value := [.bool x.is, .int .i64 x.how, .int .i64 x.finds]
theorem cz_len (x : Cz) : (cz x).length = 3 := rfl
theorem cz_one (x : Cz) : (cz x).all Value.oneCell' = true := rfl
def czv (x : Cz) : Value := .agg #[.bool x.is, .int .i64 x.how, .int .i64 x.finds]
def czt (x : Cz) : Bool × Int × Int := (x.is, x.how, x.finds)
theorem cz_ld {w : World} {p : Addr} {x : Cz} {K : Bool → Int → Int → Prop} (h : AtC w p (cz x)) (k : K x.is x.how x.finds) :
    ld Value.bool (p.add 0) w fun x0 => ld (Value.int .i64) (p.add 1) w fun x1 => ld (Value.int .i64) (p.add 2) w fun x2 => K x0 x1 x2 :=
  h.ld (j := 0) rfl (h.ld (j := 1) rfl (h.ld (j := 2) rfl k))
def IsCz (w : World) (b : Nat) (x : Cz) : Prop := Blk w b 72 (cz x).toArray
theorem IsCz.at {w : World} {b : Nat} {x : Cz} (h : IsCz w b x) : AtC w (Addr.mk b 0 none) (cz x) := fun j u hu => by
  unfold IsCz at h
  rw [mk_add, h.cell]
  simpa using hu
theorem IsCz.keepQ {w w' : World} {b : Nat} {x : Cz} (h : IsCz w b x) (q : Quiet w w') : IsCz w' b x := Blk.keepQ h q
theorem cz_box {z0 z1 z2 : Value} {w : World} {x : Cz} {K : Nat → World → Prop} (k : ∀ b w', IsCz w' b x → Quiet w w' → w.heap.size ≤ b → b < w'.heap.size → K b w') :
    nw 72 #[z0, z1, z2] w fun b w1 => st (Addr.mk b 0 none) [.bool x.is, .int .i64 x.how, .int .i64 x.finds] w1 fun w2 => K b w2 :=
  box_all rfl k
def okCz (x : Cz) : Prop := True ∧ i64 x.how ∧ i64 x.finds
def cz_cells (w : World) (p : Addr) (x : Cz) : Prop := w.cell? (p.add 0) = some (.bool x.is) ∧ w.cell? (p.add 1) = some (.int .i64 x.how) ∧ w.cell? (p.add 2) = some (.int .i64 x.finds)
theorem cz_cj {w : World} {p : Addr} {x : Cz} (h : AtC w p (cz x)) : cz_cells w p x := ⟨h.cj (j := 0) rfl, h.cj (j := 1) rfl, h.cj (j := 2) rfl⟩
theorem cz_row {w : World} {b n : Nat} {cs : Array Value} {l : List Cz} (h : Blk w b 72 cs) (hn : n = l.length) (hc : cs = (l.flatMap cz).toArray) : Rd w cz 3 (⟨some ⟨b, 0, none⟩, n, n⟩ : Sl) l := by
  subst hc
  refine ⟨hn, fun i u hu => ⟨_, rfl, fun j v hv => ?_⟩⟩
  rw [mk_add, mk_add, h.cell]
  simpa using flat_at cz_len hu hv


theorem ap26 : appOK Try.prog 26 44 3 24 = true := by kernel_rfl
theorem ap25 : appOK Try.prog 25 46 2 16 = true := by kernel_rfl
theorem ap63 : appOK Try.prog 63 3 1 8 = true := by kernel_rfl
theorem zv46 : (Try.prog.info? 46).bind (·.zero) = some (.agg #[.int .i64 0, .int .i64 0]) := by kernel_rfl
theorem zv3 : (Try.prog.info? 3).bind (·.zero) = some (.int .i64 0) := by kernel_rfl

/-! ### the ways of a construct -/
def edits (a : Ap) : Bool := decide (a.edit = 2) && decide (a.within = 0)
def optsP (a : Ap) (c : Int) : List Op :=
  if c = 1 then [⟨1, 1, decide (2 ≤ a.parts) && decide (4400 ≤ IntKind.i64.wrap (a.size * a.parts))⟩, ⟨4, 1, decide (2 ≤ a.parts)⟩, ⟨4, 0, true⟩]
  else if c = 2 then [⟨0, 0, edits a⟩, ⟨3, 2, true⟩]
  else if c = 3 then [⟨0, 0, !decide (a.delete = 0)⟩, ⟨2, 0, edits a⟩, ⟨3, 2, true⟩]
  else if c = 4 then [⟨0, 0, a.react && decide (a.parts = 1)⟩, ⟨0, 1, a.react⟩, ⟨3, 2, true⟩]
  else if c = 5 then [⟨0, 0, decide (a.thread = 2)⟩, ⟨2, 1, decide (a.thread = 1)⟩, ⟨2, 2, true⟩]
  else if c = 6 then [⟨0, 0, a.quote⟩, ⟨2, 2, true⟩]
  else if c = 7 then [⟨0, 0, a.mention⟩, ⟨2, 2, true⟩]
  else if c = 8 then [⟨0, 0, decide (a.files = 4)⟩, ⟨4, 1, decide (1 ≤ a.files)⟩, ⟨2, 2, true⟩]
  else [⟨0, 0, true⟩]
theorem edits_c (w : World) (a : Ap) (s : Sl) (b : Nat) (K : Bool → Prop) (A : AtC w (Addr.mk b 0 none) (pf (pfOf a s))) (k : K (edits a)) :
    ld (Value.int .i64) ((Addr.mk b 0 none).add 1) w fun x10 => jp (fun J11 => cnd (decide (x10 = 2)) (ld (Value.int .i64) ((Addr.mk b 0 none).add 2) w fun x13 => J11 (decide (x13 = 0))) (J11 false)) K :=
  A.ld (j := 1) rfl (jp_and (v := decide (a.within = 0)) (fun _ J hJ => A.ld (j := 2) rfl hJ) k)
theorem options_c (w : World) (a : Ap) (s : Sl) (c : Int) : callC Try.prog 29 #[pfv (pfOf a s), .int .i64 c] Sl.v w fun r w' => Rd w' op 3 r (optsP a c) ∧ Quiet w w' ∧ (∀ ad, r.a = some ad → w.heap.size ≤ ad.block) := by
  refine D29 _ _ _ _ _ _ _ _ _ _ _ _ _ _ _ _ _ _ _ _ _ _ _ w _ ?_
  unfold F29
  refine nwL fun b9 w1 hb9 q9 _ _ _ => ?_
  have A : AtC w1 (Addr.mk b9 0 none) (pf (pfOf a s)) := IsPf.at hb9
  refine edits_c w1 a s b9 _ A ?_
  refine wy_box (x := ⟨0, 0⟩) fun b15 w3 hb15 q15 _ _ => ?_
  have A : AtC w3 (Addr.mk b9 0 none) (pf (pfOf a s)) := (IsPf.keepQ hb9 q15).at
  have q3 := q9.tr q15
  have B := hb15.at
  unfold optsP
  refine ⟨fun g => ?_, fun g => ?_⟩
  · rw [if_pos (of_decide_eq_true g)]
    refine A.ld (j := 9) rfl (jp_and (v := decide (4400 ≤ IntKind.i64.wrap (a.size * a.parts))) (fun _ J hJ => A.ld (j := 8) rfl (A.ld (j := 9) rfl hJ)) (A.ld (j := 9) rfl (nwL fun b w4 hb q g _ _ => ⟨op_row hb rfl rfl, q3.tr q, fun ad e => by (simp only [Option.some.injEq] at e; subst e; exact Nat.le_trans q3.size g)⟩)))
  rw [if_neg (of_decide_eq_false g)]
  refine ⟨fun g => ?_, fun g => ?_⟩
  · rw [if_pos (of_decide_eq_true g)]
    exact (B.ld (j := 0) rfl (B.ld (j := 1) rfl (nwL fun b w4 hb q g _ _ => ⟨op_row hb rfl rfl, q3.tr q, fun ad e => by (simp only [Option.some.injEq] at e; subst e; exact Nat.le_trans q3.size g)⟩)))
  rw [if_neg (of_decide_eq_false g)]
  refine ⟨fun g => ?_, fun g => ?_⟩
  · rw [if_pos (of_decide_eq_true g)]
    exact (B.ld (j := 0) rfl (B.ld (j := 1) rfl (A.ld (j := 3) rfl (nwL fun b w4 hb q g _ _ => ⟨op_row hb rfl rfl, q3.tr q, fun ad e => by (simp only [Option.some.injEq] at e; subst e; exact Nat.le_trans q3.size g)⟩))))
  rw [if_neg (of_decide_eq_false g)]
  refine ⟨fun g => ?_, fun g => ?_⟩
  · rw [if_pos (of_decide_eq_true g)]
    exact B.ld (j := 0) rfl (B.ld (j := 1) rfl (A.ld (j := 4) rfl (jp_and (v := decide (a.parts = 1)) (fun _ J hJ => A.ld (j := 9) rfl hJ) (A.ld (j := 4) rfl (nwL fun b w4 hb q g _ _ => ⟨op_row hb rfl rfl, q3.tr q, fun ad e => by (simp only [Option.some.injEq] at e; subst e; exact Nat.le_trans q3.size g)⟩)))))
  rw [if_neg (of_decide_eq_false g)]
  refine ⟨fun g => ?_, fun g => ?_⟩
  · rw [if_pos (of_decide_eq_true g)]
    exact (B.ld (j := 0) rfl (B.ld (j := 1) rfl (A.ld (j := 5) rfl (A.ld (j := 5) rfl (nwL fun b w4 hb q g _ _ => ⟨op_row hb rfl rfl, q3.tr q, fun ad e => by (simp only [Option.some.injEq] at e; subst e; exact Nat.le_trans q3.size g)⟩)))))
  rw [if_neg (of_decide_eq_false g)]
  refine ⟨fun g => ?_, fun g => ?_⟩
  · rw [if_pos (of_decide_eq_true g)]
    exact (B.ld (j := 0) rfl (B.ld (j := 1) rfl (A.ld (j := 6) rfl (nwL fun b w4 hb q g _ _ => ⟨op_row hb rfl rfl, q3.tr q, fun ad e => by (simp only [Option.some.injEq] at e; subst e; exact Nat.le_trans q3.size g)⟩))))
  rw [if_neg (of_decide_eq_false g)]
  refine ⟨fun g => ?_, fun g => ?_⟩
  · rw [if_pos (of_decide_eq_true g)]
    exact (B.ld (j := 0) rfl (B.ld (j := 1) rfl (A.ld (j := 7) rfl (nwL fun b w4 hb q g _ _ => ⟨op_row hb rfl rfl, q3.tr q, fun ad e => by (simp only [Option.some.injEq] at e; subst e; exact Nat.le_trans q3.size g)⟩))))
  rw [if_neg (of_decide_eq_false g)]
  refine ⟨fun g => ?_, fun g => ?_⟩
  · rw [if_pos (of_decide_eq_true g)]
    exact (B.ld (j := 0) rfl (B.ld (j := 1) rfl (A.ld (j := 10) rfl (A.ld (j := 10) rfl (nwL fun b w4 hb q g _ _ => ⟨op_row hb rfl rfl, q3.tr q, fun ad e => by (simp only [Option.some.injEq] at e; subst e; exact Nat.le_trans q3.size g)⟩)))))
  rw [if_neg (of_decide_eq_false g)]
  exact B.ld (j := 0) rfl (B.ld (j := 1) rfl (nwL fun b w4 hb q g _ _ => ⟨op_row hb rfl rfl, q3.tr q, fun ad e => by (simp only [Option.some.injEq] at e; subst e; exact Nat.le_trans q3.size g)⟩))

/-! ### the first way that is permitted -/
def firstP : List Cz → Wy
  | [] => ⟨5, 2⟩
  | x :: l => if x.is = true then ⟨x.how, x.finds⟩ else firstP l
theorem firstP_drop {l : List Cz} {i : Nat} {x : Cz} (hx : l[i]? = some x) (h : firstP l = firstP (l.drop i)) : firstP l = if x.is = true then ⟨x.how, x.finds⟩ else firstP (l.drop (i + 1)) := by
  obtain ⟨hj, e⟩ := List.getElem?_eq_some_iff.1 hx
  rw [h, List.drop_eq_getElem_cons hj, e, firstP]
theorem first_c (w : World) (s : Sl) (l : List Cz) (h : Rd w cz 3 s l) (hl : l.length ≤ 1000) : callC Try.prog 43 #[s.v] (fun (r : Int × Int) => .agg #[.int .i64 r.1, .int .i64 r.2]) w fun r w' => r = ((firstP l).how, (firstP l).finds) ∧ Quiet w w' := by
  have hsl := h.len
  refine D43 _ w _ ?_
  unfold F43
  refine nwL fun b9 w1 hb9 q1 g9 _ l9 => ?_
  refine ⟨fun i w' => 0 ≤ i ∧ i ≤ l.length ∧ firstP l = firstP (l.drop i.toNat) ∧ Quiet w1 w', fun i _ => (l.length - i).toNat, ⟨by omega, by omega, rfl, Only.refl _ _⟩, ?_⟩
  rintro i w2 ⟨i0, i1, hn, q2⟩
  refine ⟨fun hi => ?_, fun hi => ?_⟩
  · have hi : i < (s.len : Int) := of_decide_eq_true hi
    obtain ⟨x, hx⟩ := getq (l := l) i0 (by omega)
    have hf := firstP_drop hx hn
    refine (h.keepQ (q1.tr q2)).ixx i0 hx fun p hat _ => cz_ld hat (cz_box fun b16 w4 hb16 q16 _ _ => ?_)
    have A := hb16.at
    have q24 := q2.tr q16
    refine A.ld (j := 0) rfl ⟨fun g => ?_, fun g => ?_⟩
    · rw [if_pos g] at hf
      refine AtC.ld2 (j := 1) (k := 0) A rfl (AtC.ld2 (j := 1) (k := 1) A rfl ?_)
      refine wy_st (x := ⟨x.how, x.finds⟩) (Blk.keepQ hb9 q24) rfl fun w5 h5 on _ => wy_ld h5.at ⟨by rw [hf], q1.new ((q24.trans on).mono fun x _ e => e.elim False.elim id) fun x hx => by omega⟩
    · rw [if_neg (by rw [g]; exact Bool.false_ne_true)] at hf
      rw [w64 (by omega) (by omega)]
      refine ⟨⟨by omega, by omega, ?_, q24⟩, by (try dsimp only); omega⟩
      rw [toNat_succ i0]
      exact hf
  · have hi : ¬ i < (s.len : Int) := of_decide_eq_false hi
    rw [List.drop_of_length_le (by omega)] at hn
    exact wy_st (x := ⟨5, 2⟩) (Blk.keepQ hb9 q2) rfl fun w5 h5 on _ => wy_ld h5.at ⟨by rw [hn]; rfl, q1.new ((q2.trans on).mono fun x _ e => e.elim False.elim id) fun x hx => by omega⟩

/-! ### right lists of ways -/
def badW (x : Wy) : Bool := ((decide (x.how < 0) || decide (6 ≤ x.how)) || decide (x.finds < 0)) || decide (3 ≤ x.finds)
def RightW (l : List Wy) : Prop := l.length = 9 ∧ ∀ x ∈ l, badW x = false
instance (l : List Wy) : Decidable (RightW l) := by unfold RightW; infer_instance
theorem bad_c (w : World) (x : Wy) : callC Try.prog 48 #[wyv x] (fun (r : Bool) => .bool r) w fun r w' => r = badW x ∧ Quiet w w' := by
  refine D48 _ _ w _ ?_
  unfold F48
  refine nwL fun b9 w1 hb q _ _ _ => ?_
  have A : AtC w1 (Addr.mk b9 0 none) (wy x) := IsWy.at hb
  refine A.ld (j := 0) rfl ?_
  refine jp_or (v := decide (6 ≤ x.how)) (fun _ J hJ => A.ld (j := 0) rfl hJ) ?_
  refine jp_or (v := decide (x.finds < 0)) (fun _ J hJ => A.ld (j := 1) rfl hJ) ?_
  exact jp_or (v := decide (3 ≤ x.finds)) (fun _ J hJ => A.ld (j := 1) rfl hJ) ⟨rfl, q⟩
theorem right20_c (w : World) (s : Sl) (l : List Wy) (h : Rd w wy 2 s l) : callC Try.prog 26 #[s.v] (fun (r : Bool) => .bool r) w fun r w' => r = decide (RightW l) ∧ Quiet w w' := by
  have hsl := h.len
  refine D26 _ w _ ?_
  unfold F26
  refine jn_any' (W := w) (decide (RightW l)) ⟨fun g => ?_, fun g => ⟨(decide_eq_false fun e => absurd g ?_).symm, Only.refl _ _⟩⟩ fun w' q => ⟨rfl, q⟩
  rotate_left
  · have e := e.1
    rw [decide_eq_true (show (s.len : Int) = 9 by omega)]
    simp
  have g : (s.len : Int) = 9 := of_decide_eq_true g
  have hl : l.length = 9 := by omega
  refine callC.use (R := fun r w' => r = l.any badW ∧ Quiet w w') (D49 _ _ w _ ?_) ?_
  · unfold F49
    refine callC.use (R := fun r w' => decide (0 ≤ r) = l.any badW ∧ Quiet w w') (D57 _ _ w _ ?_) fun r w' h => h
    unfold F57
    refine ⟨fun i w' => 0 ≤ i ∧ i ≤ l.length ∧ (l.take i.toNat).any badW = false ∧ Quiet w w', fun i _ => (l.length - i).toNat, ⟨by omega, by omega, by simp, Only.refl _ _⟩, ?_⟩
    rintro i w1 ⟨i0, i1, hn, q1⟩
    refine ⟨fun hi => ?_, fun hi => ?_⟩
    · have hlt : i < l.length := by rw [hsl] at hi; exact of_decide_eq_true hi
      obtain ⟨x, hx⟩ := getq i0 hlt
      refine (h.keepQ q1).ixx i0 hx fun p hat _ => wy_ld hat (cv_mk (ca := []) (l := [wyv x]) Try.func48 NN_48 NB_48 rfl ((bad_c w1 x).use ?_))
      rintro _ w2 ⟨rfl, q2⟩
      refine ⟨fun hc => ⟨?_, q1.tr q2⟩, fun hc => ?_⟩
      · rw [List.any_eq_true.2 ⟨x, List.mem_of_getElem? hx, hc⟩]
        exact decide_eq_true i0
      · rw [w64 (by omega) (by omega)]
        refine ⟨⟨by omega, by omega, ?_, q1.tr q2⟩, by (try dsimp only); omega⟩
        rw [toNat_succ i0, take_next hx, List.any_append, hn]
        simp [hc]
    · have hge : l.length ≤ i.toNat := by have := of_decide_eq_false hi; omega
      rw [List.take_of_length_le hge] at hn
      exact ⟨by rw [hn]; rfl, q1⟩
  · rintro _ w1 ⟨rfl, q1⟩
    refine ⟨?_, q1⟩
    rw [Bool.eq_iff_iff, decide_eq_true_eq, Bool.not_eq_true', List.any_eq_false]
    unfold RightW
    simp [hl]
end Go.Proofs.Ytnoahloppffndaa
