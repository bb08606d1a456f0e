import Derived.Test.YtgbhghoppjfofaaGreatBase
import Derived.Test.YtgbhghoppjfofaaGreatFs1
import Derived.Test.YtgbhghoppjfofaaGreatFs2
import Derived.Test.YtgbhghoppjfofaaGreatFs3
import Derived.Test.YtgbhghoppjfofaaGreatFs4
import Derived.Test.YtgbhghoppjfofaaGreatFs5
namespace Go.Proofs.YtgbhghoppjfofaaGreat
open Go.Dec Go.RowKit
set_option maxHeartbeats 400000

def cb (s : ByteArray) : List Value := [.string s]
instance memBA (n : ByteArray) (l : List ByteArray) : Decidable (n ∈ l) := @List.instDecidableMemOfLawfulBEq _ instBEqOfDecidableEq inferInstance n l
theorem cb1 (s : ByteArray) : (cb s).length = 1 := rfl
theorem cbone (s : ByteArray) : (cb s).all Value.oneCell' = true := rfl

structure Pf where
  name : ByteArray
  edit : Int
  within : Int
  delete : Int
  react : Bool
  thread : Int
  quote : Bool
  mention : Bool
  size : Int
  parts : Int
  files : Int
  bytes : Int
  types : Sl
  join : Int
  history : Int
  remove : Int
  level : Int
  batch : Bool
  rate : Int
  down : Int
  window : Int
  keep : Int
def pf (x : Pf) : List Value := [.string x.name, .int .i64 x.edit, .int .i64 x.within, .int .i64 x.delete, .bool x.react, .int .i64 x.thread, .bool x.quote, .bool x.mention, .int .i64 x.size, .int .i64 x.parts, .int .i64 x.files, .int .i64 x.bytes, Sl.v x.types, .int .i64 x.join, .int .i64 x.history, .int .i64 x.remove, .int .i64 x.level, .bool x.batch, .int .i64 x.rate, .int .i64 x.down, .int .i64 x.window, .int .i64 x.keep]
theorem pf_len (x : Pf) : (pf x).length = 22 := rfl
theorem pf_one (x : Pf) : (pf x).all Value.oneCell' = true := rfl
def pfv (x : Pf) : Value := .agg #[.string x.name, .int .i64 x.edit, .int .i64 x.within, .int .i64 x.delete, .bool x.react, .int .i64 x.thread, .bool x.quote, .bool x.mention, .int .i64 x.size, .int .i64 x.parts, .int .i64 x.files, .int .i64 x.bytes, Sl.v x.types, .int .i64 x.join, .int .i64 x.history, .int .i64 x.remove, .int .i64 x.level, .bool x.batch, .int .i64 x.rate, .int .i64 x.down, .int .i64 x.window, .int .i64 x.keep]
def pft (x : Pf) : ByteArray × Int × Int × Int × Bool × Int × Bool × Bool × Int × Int × Int × Int × Sl × Int × Int × Int × Int × Bool × Int × Int × Int × Int := (x.name, x.edit, x.within, x.delete, x.react, x.thread, x.quote, x.mention, x.size, x.parts, x.files, x.bytes, x.types, x.join, x.history, x.remove, x.level, x.batch, x.rate, x.down, x.window, x.keep)
theorem pf_ld {w : World} {p : Addr} {x : Pf} {K : ByteArray → Int → Int → Int → Bool → Int → Bool → Bool → Int → Int → Int → Int → Sl → Int → Int → Int → Int → Bool → Int → Int → Int → Int → Prop} (h : AtC w p (pf x)) (k : K x.name x.edit x.within x.delete x.react x.thread x.quote x.mention x.size x.parts x.files x.bytes x.types x.join x.history x.remove x.level x.batch x.rate x.down x.window x.keep) :
    ld Value.string (p.add 0) w fun x0 => ld (Value.int .i64) (p.add 1) w fun x1 => ld (Value.int .i64) (p.add 2) w fun x2 => ld (Value.int .i64) (p.add 3) w fun x3 => ld Value.bool (p.add 4) w fun x4 => ld (Value.int .i64) (p.add 5) w fun x5 => ld Value.bool (p.add 6) w fun x6 => ld Value.bool (p.add 7) w fun x7 => ld (Value.int .i64) (p.add 8) w fun x8 => ld (Value.int .i64) (p.add 9) w fun x9 => ld (Value.int .i64) (p.add 10) w fun x10 => ld (Value.int .i64) (p.add 11) w fun x11 => ld Sl.v (p.add 12) w fun x12 => ld (Value.int .i64) (p.add 13) w fun x13 => ld (Value.int .i64) (p.add 14) w fun x14 => ld (Value.int .i64) (p.add 15) w fun x15 => ld (Value.int .i64) (p.add 16) w fun x16 => ld Value.bool (p.add 17) w fun x17 => ld (Value.int .i64) (p.add 18) w fun x18 => ld (Value.int .i64) (p.add 19) w fun x19 => ld (Value.int .i64) (p.add 20) w fun x20 => ld (Value.int .i64) (p.add 21) w fun x21 => K x0 x1 x2 x3 x4 x5 x6 x7 x8 x9 x10 x11 x12 x13 x14 x15 x16 x17 x18 x19 x20 x21 :=
  h.ld (j := 0) rfl (h.ld (j := 1) rfl (h.ld (j := 2) rfl (h.ld (j := 3) rfl (h.ld (j := 4) rfl (h.ld (j := 5) rfl (h.ld (j := 6) rfl (h.ld (j := 7) rfl (h.ld (j := 8) rfl (h.ld (j := 9) rfl (h.ld (j := 10) rfl (h.ld (j := 11) rfl (h.ld (j := 12) rfl (h.ld (j := 13) rfl (h.ld (j := 14) rfl (h.ld (j := 15) rfl (h.ld (j := 16) rfl (h.ld (j := 17) rfl (h.ld (j := 18) rfl (h.ld (j := 19) rfl (h.ld (j := 20) rfl (h.ld (j := 21) rfl k)))))))))))))))))))))
def IsPf (w : World) (b : Nat) (x : Pf) : Prop := Blk w b 65 (pf x).toArray
theorem IsPf.at {w : World} {b : Nat} {x : Pf} (h : IsPf w b x) : AtC w (Addr.mk b 0 none) (pf x) := fun j u hu => by
  unfold IsPf at h
  rw [mk_add, h.cell]
  simpa using hu
theorem IsPf.keepQ {w w' : World} {b : Nat} {x : Pf} (h : IsPf w b x) (q : Quiet w w') : IsPf w' b x := Blk.keepQ h q
theorem pf_box {z0 z1 z2 z3 z4 z5 z6 z7 z8 z9 z10 z11 z12 z13 z14 z15 z16 z17 z18 z19 z20 z21 : Value} {w : World} {x : Pf} {K : Nat → World → Prop} (k : ∀ b w', IsPf w' b x → Quiet w w' → w.heap.size ≤ b → b < w'.heap.size → K b w') :
    nw 65 #[z0, z1, z2, z3, z4, z5, z6, z7, z8, z9, z10, z11, z12, z13, z14, z15, z16, z17, z18, z19, z20, z21] w fun b w1 => st (Addr.mk b 0 none) [.string x.name, .int .i64 x.edit, .int .i64 x.within, .int .i64 x.delete, .bool x.react, .int .i64 x.thread, .bool x.quote, .bool x.mention, .int .i64 x.size, .int .i64 x.parts, .int .i64 x.files, .int .i64 x.bytes, Sl.v x.types, .int .i64 x.join, .int .i64 x.history, .int .i64 x.remove, .int .i64 x.level, .bool x.batch, .int .i64 x.rate, .int .i64 x.down, .int .i64 x.window, .int .i64 x.keep] w1 fun w2 => K b w2 :=
  box_all rfl k
def okPf (x : Pf) : Prop := x.name.size ≤ maxLen ∧ i64 x.edit ∧ i64 x.within ∧ i64 x.delete ∧ True ∧ i64 x.thread ∧ True ∧ True ∧ i64 x.size ∧ i64 x.parts ∧ i64 x.files ∧ i64 x.bytes ∧ True ∧ i64 x.join ∧ i64 x.history ∧ i64 x.remove ∧ i64 x.level ∧ True ∧ i64 x.rate ∧ i64 x.down ∧ i64 x.window ∧ i64 x.keep
def pf_cells (w : World) (p : Addr) (x : Pf) : Prop := w.cell? (p.add 0) = some (.string x.name) ∧ w.cell? (p.add 1) = some (.int .i64 x.edit) ∧ w.cell? (p.add 2) = some (.int .i64 x.within) ∧ w.cell? (p.add 3) = some (.int .i64 x.delete) ∧ w.cell? (p.add 4) = some (.bool x.react) ∧ w.cell? (p.add 5) = some (.int .i64 x.thread) ∧ w.cell? (p.add 6) = some (.bool x.quote) ∧ w.cell? (p.add 7) = some (.bool x.mention) ∧ w.cell? (p.add 8) = some (.int .i64 x.size) ∧ w.cell? (p.add 9) = some (.int .i64 x.parts) ∧ w.cell? (p.add 10) = some (.int .i64 x.files) ∧ w.cell? (p.add 11) = some (.int .i64 x.bytes) ∧ w.cell? (p.add 12) = some (Sl.v x.types) ∧ w.cell? (p.add 13) = some (.int .i64 x.join) ∧ w.cell? (p.add 14) = some (.int .i64 x.history) ∧ w.cell? (p.add 15) = some (.int .i64 x.remove) ∧ w.cell? (p.add 16) = some (.int .i64 x.level) ∧ w.cell? (p.add 17) = some (.bool x.batch) ∧ w.cell? (p.add 18) = some (.int .i64 x.rate) ∧ w.cell? (p.add 19) = some (.int .i64 x.down) ∧ w.cell? (p.add 20) = some (.int .i64 x.window) ∧ w.cell? (p.add 21) = some (.int .i64 x.keep)
theorem pf_cj {w : World} {p : Addr} {x : Pf} (h : AtC w p (pf x)) : pf_cells w p x := ⟨h.cj (j := 0) rfl, h.cj (j := 1) rfl, h.cj (j := 2) rfl, h.cj (j := 3) rfl, h.cj (j := 4) rfl, h.cj (j := 5) rfl, h.cj (j := 6) rfl, h.cj (j := 7) rfl, h.cj (j := 8) rfl, h.cj (j := 9) rfl, h.cj (j := 10) rfl, h.cj (j := 11) rfl, h.cj (j := 12) rfl, h.cj (j := 13) rfl, h.cj (j := 14) rfl, h.cj (j := 15) rfl, h.cj (j := 16) rfl, h.cj (j := 17) rfl, h.cj (j := 18) rfl, h.cj (j := 19) rfl, h.cj (j := 20) rfl, h.cj (j := 21) rfl⟩
theorem pf_row {w : World} {b n : Nat} {cs : Array Value} {l : List Pf} (h : Blk w b 65 cs) (hn : n = l.length) (hc : cs = (l.flatMap pf).toArray) : Rd w pf 22 (⟨some ⟨b, 0, none⟩, n, n⟩ : Sl) l := by
  subst hc
  refine ⟨hn, fun i u hu => ⟨_, rfl, fun j v hv => ?_⟩⟩
  rw [mk_add, mk_add, h.cell]
  simpa using flat_at pf_len hu hv

/-- a profile whose types are a list -/
structure Ap where
  name : ByteArray
  edit : Int
  within : Int
  delete : Int
  react : Bool
  thread : Int
  quote : Bool
  mention : Bool
  size : Int
  parts : Int
  files : Int
  bytes : Int
  types : List ByteArray
  join : Int
  history : Int
  remove : Int
  level : Int
  batch : Bool
  rate : Int
  down : Int
  window : Int
  keep : Int
deriving DecidableEq
def pfOf (a : Ap) (s : Sl) : Pf := ⟨a.name, a.edit, a.within, a.delete, a.react, a.thread, a.quote, a.mention, a.size, a.parts, a.files, a.bytes, s, a.join, a.history, a.remove, a.level, a.batch, a.rate, a.down, a.window, a.keep⟩
def apOf (p : Pf) (l : List ByteArray) : Ap := ⟨p.name, p.edit, p.within, p.delete, p.react, p.thread, p.quote, p.mention, p.size, p.parts, p.files, p.bytes, l, p.join, p.history, p.remove, p.level, p.batch, p.rate, p.down, p.window, p.keep⟩
theorem pfOf_apOf (p : Pf) (l : List ByteArray) : pfOf (apOf p l) p.types = p := rfl
end Go.Proofs.YtgbhghoppjfofaaGreat
