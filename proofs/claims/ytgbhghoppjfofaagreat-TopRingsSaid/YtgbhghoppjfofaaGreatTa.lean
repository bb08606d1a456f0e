import Derived.Test.YtgbhghoppjfofaaGreatSort
import Derived.Test.YtgbhghoppjfofaaGreatTq
import Derived.Test.YtgbhghoppjfofaaGreatFs1
import Derived.Test.YtgbhghoppjfofaaGreatFs2
import Derived.Test.YtgbhghoppjfofaaGreatFs3
import Derived.Test.YtgbhghoppjfofaaGreatFs4
import Derived.Test.YtgbhghoppjfofaaGreatFs5
namespace Go.Proofs.YtgbhghoppjfofaaGreat
open Go.Dec Go.RowKit Go.Top
set_option maxHeartbeats 400000

def wt (x : Wt) : List Value := [.int .i64 x.ev, .int .i64 x.net, .int .i64 x.left, .int .i64 x.due]
theorem wt_len (x : Wt) : (wt x).length = 4 := rfl
theorem wt_one (x : Wt) : (wt x).all Value.oneCell' = true := rfl
def wtv (x : Wt) : Value := .agg #[.int .i64 x.ev, .int .i64 x.net, .int .i64 x.left, .int .i64 x.due]
def wtt (x : Wt) : Int × Int × Int × Int := (x.ev, x.net, x.left, x.due)
theorem wt_ld {w : World} {p : Addr} {x : Wt} {K : Int → Int → Int → Int → Prop} (h : AtC w p (wt x)) (k : K x.ev x.net x.left x.due) :
    ld (Value.int .i64) (p.add 0) w fun x0 => ld (Value.int .i64) (p.add 1) w fun x1 => ld (Value.int .i64) (p.add 2) w fun x2 => ld (Value.int .i64) (p.add 3) w fun x3 => K x0 x1 x2 x3 :=
  h.ld (j := 0) rfl (h.ld (j := 1) rfl (h.ld (j := 2) rfl (h.ld (j := 3) rfl k)))
def IsWt (w : World) (b : Nat) (x : Wt) : Prop := Blk w b 70 (wt x).toArray
theorem IsWt.at {w : World} {b : Nat} {x : Wt} (h : IsWt w b x) : AtC w (Addr.mk b 0 none) (wt x) := fun j u hu => by
  unfold IsWt at h
  rw [mk_add, h.cell]
  simpa using hu
theorem IsWt.keepQ {w w' : World} {b : Nat} {x : Wt} (h : IsWt w b x) (q : Quiet w w') : IsWt w' b x := Blk.keepQ h q
theorem wt_box {z0 z1 z2 z3 : Value} {w : World} {x : Wt} {K : Nat → World → Prop} (k : ∀ b w', IsWt w' b x → Quiet w w' → w.heap.size ≤ b → b < w'.heap.size → K b w') :
    nw 70 #[z0, z1, z2, z3] w fun b w1 => st (Addr.mk b 0 none) [.int .i64 x.ev, .int .i64 x.net, .int .i64 x.left, .int .i64 x.due] w1 fun w2 => K b w2 :=
  box_all rfl k
def okWt (x : Wt) : Prop := i64 x.ev ∧ i64 x.net ∧ i64 x.left ∧ i64 x.due
def wt_cells (w : World) (p : Addr) (x : Wt) : Prop := w.cell? (p.add 0) = some (.int .i64 x.ev) ∧ w.cell? (p.add 1) = some (.int .i64 x.net) ∧ w.cell? (p.add 2) = some (.int .i64 x.left) ∧ w.cell? (p.add 3) = some (.int .i64 x.due)
theorem wt_cj {w : World} {p : Addr} {x : Wt} (h : AtC w p (wt x)) : wt_cells w p x := ⟨h.cj (j := 0) rfl, h.cj (j := 1) rfl, h.cj (j := 2) rfl, h.cj (j := 3) rfl⟩
theorem wt_row {w : World} {b n : Nat} {cs : Array Value} {l : List Wt} (h : Blk w b 70 cs) (hn : n = l.length) (hc : cs = (l.flatMap wt).toArray) : Rd w wt 4 (⟨some ⟨b, 0, none⟩, n, n⟩ : Sl) l := by
  subst hc
  refine ⟨hn, fun i u hu => ⟨_, rfl, fun j v hv => ?_⟩⟩
  rw [mk_add, mk_add, h.cell]
  simpa using flat_at wt_len hu hv

def jbc (x : Jb) : List Value := [.int .i64 x.id, .int .i64 x.size, .int .i64 x.due]
theorem jbc_len (x : Jb) : (jbc x).length = 3 := rfl
theorem jbc_one (x : Jb) : (jbc x).all Value.oneCell' = true := rfl
def jbcv (x : Jb) : Value := .agg #[.int .i64 x.id, .int .i64 x.size, .int .i64 x.due]
def jbct (x : Jb) : Int × Int × Int := (x.id, x.size, x.due)
theorem jbc_ld {w : World} {p : Addr} {x : Jb} {K : Int → Int → Int → Prop} (h : AtC w p (jbc x)) (k : K x.id x.size x.due) :
    ld (Value.int .i64) (p.add 0) w fun x0 => ld (Value.int .i64) (p.add 1) w fun x1 => ld (Value.int .i64) (p.add 2) w fun x2 => K x0 x1 x2 :=
  h.ld (j := 0) rfl (h.ld (j := 1) rfl (h.ld (j := 2) rfl k))
def IsJb (w : World) (b : Nat) (x : Jb) : Prop := Blk w b 103 (jbc x).toArray
theorem IsJb.at {w : World} {b : Nat} {x : Jb} (h : IsJb w b x) : AtC w (Addr.mk b 0 none) (jbc x) := fun j u hu => by
  unfold IsJb at h
  rw [mk_add, h.cell]
  simpa using hu
theorem IsJb.keepQ {w w' : World} {b : Nat} {x : Jb} (h : IsJb w b x) (q : Quiet w w') : IsJb w' b x := Blk.keepQ h q
theorem jbc_box {z0 z1 z2 : Value} {w : World} {x : Jb} {K : Nat → World → Prop} (k : ∀ b w', IsJb w' b x → Quiet w w' → w.heap.size ≤ b → b < w'.heap.size → K b w') :
    nw 103 #[z0, z1, z2] w fun b w1 => st (Addr.mk b 0 none) [.int .i64 x.id, .int .i64 x.size, .int .i64 x.due] w1 fun w2 => K b w2 :=
  box_all rfl k
def okJb (x : Jb) : Prop := i64 x.id ∧ i64 x.size ∧ i64 x.due
def jbc_cells (w : World) (p : Addr) (x : Jb) : Prop := w.cell? (p.add 0) = some (.int .i64 x.id) ∧ w.cell? (p.add 1) = some (.int .i64 x.size) ∧ w.cell? (p.add 2) = some (.int .i64 x.due)
theorem jbc_cj {w : World} {p : Addr} {x : Jb} (h : AtC w p (jbc x)) : jbc_cells w p x := ⟨h.cj (j := 0) rfl, h.cj (j := 1) rfl, h.cj (j := 2) rfl⟩
theorem jbc_row {w : World} {b n : Nat} {cs : Array Value} {l : List Jb} (h : Blk w b 103 cs) (hn : n = l.length) (hc : cs = (l.flatMap jbc).toArray) : Rd w jbc 3 (⟨some ⟨b, 0, none⟩, n, n⟩ : Sl) l := by
  subst hc
  refine ⟨hn, fun i u hu => ⟨_, rfl, fun j v hv => ?_⟩⟩
  rw [mk_add, mk_add, h.cell]
  simpa using flat_at jbc_len hu hv

structure Dm where
  job : Jb
  needs : Int
  gives : Int
def dm (x : Dm) : List Value := [.int .i64 x.job.id, .int .i64 x.job.size, .int .i64 x.job.due, .int .i64 x.needs, .int .i64 x.gives]
theorem dm_len (x : Dm) : (dm x).length = 5 := rfl
theorem dm_one (x : Dm) : (dm x).all Value.oneCell' = true := rfl
structure Gn where
  ev : Int
  net : Int
  t : Int
def gn (x : Gn) : List Value := [.int .i64 x.ev, .int .i64 x.net, .int .i64 x.t]
theorem gn_len (x : Gn) : (gn x).length = 3 := rfl
theorem gn_one (x : Gn) : (gn x).all Value.oneCell' = true := rfl
theorem apW : appOK Tryz.prog 66 70 4 32 = true := by kernel_rfl
theorem apJ : appOK Tryz.prog 101 103 3 24 = true := by kernel_rfl
theorem apI : appOK Tryz.prog 39 3 1 8 = true := by kernel_rfl
def cmpI (a b : Int) : Int := if a < b then -1 else if b < a then 1 else 0
def cmp2 (a b c d : Int) : Int := if cmpI a b ≠ 0 then cmpI a b else cmpI c d
theorem lt2 {α : Type} (f g : α → Int) (x y : α) : ltOf (fun x y => cmp2 (f x) (f y) (g x) (g y)) x y = decide (f x < f y ∨ (f x = f y ∧ g x < g y)) := by
  unfold ltOf
  dsimp only
  unfold cmp2 cmpI
  rw [decide_eq_decide]
  repeat' split
  all_goals omega
theorem swo2 {α : Type} [Inhabited α] (f g : α → Int) : Sort.SWO (ltOf fun x y : α => cmp2 (f x) (f y) (g x) (g y)) where
  irrefl x := by rw [lt2]; simp
  trans x y z h1 h2 := by rw [lt2, decide_eq_true_eq] at *; omega
  ntrans x y z h1 h2 := by rw [lt2, decide_eq_false_iff_not] at *; omega
theorem le2 {α : Type} {f g : α → Int} {x y : α} (h : ltOf (fun x y => cmp2 (f x) (f y) (g x) (g y)) y x = false) : f x ≤ f y := by
  rw [lt2, decide_eq_false_iff_not] at h
  omega
end Go.Proofs.YtgbhghoppjfofaaGreat
