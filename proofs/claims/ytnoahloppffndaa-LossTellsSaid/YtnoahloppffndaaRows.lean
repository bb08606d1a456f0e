/-
  No cell of these rows narrows 'for every input' (looked for: loops, veiled, ifaces, maps, wideKeys, modest, calm, conditions, laid).
  DERIVED. THE GIVEN ROWS OF THIS SEAT. 5 by the template 'for every input the law returns true; each argument reads behind the call as it read before'; 0 by the template 'total and deterministic' (their statements: YtnoahloppffndaaTotals.lean).
  GIVEN WITH THE SEED: the statements are not yours to turn. If you find one false, say at which input.
  Laid BY PROGRAM, IN A SANDBOX (cutbox-rows.mjs): the forced cells as the released guide's own fill.sh prints them over the translation 09e9aa28cd2c60df… (all of the seat's roots in one cut). By AI agents, Wed Nov 11 2026. No macro, syntax, notation, axiom, sorry.
-/
import Derived.Test.YtnoahloppffndaaChecked
import GoSem.Claim
import GoSem.ClaimJoined
import GoSem.ClaimMapViews
import Derived.JoinedTies
import Derived.KernelRfl
namespace Go.Proofs.Ytnoahloppffndaa
/- THE CELL 'sum', in the pinned program and in every row, IS THE sha256 OF THE DUMP (.gsa) THAT YtnoahloppffndaaProg.lean LOADS. Nothing in Lean hashes anything: it is a label: what it is worth is what the hold of that sum in a sandbox is worth. -/
noncomputable def Try.pinned : Pinned := { name := "ytnoahloppffndaa", sum := "09e9aa28cd2c60dfcfc6b4c04d40f543ac012d6587a6e114f0e66fe79b8c369c", checked := Try.checked }
namespace Rows
def none {H : Type} : Left H := { results := [], args := [] }

/-- 'lingualaw20.LossTells': WHATEVER THE INPUT: true; the input reads as it did. -/
def lossTellsSpec : ChangeSpec := { name := "lossTells", fn := fun _ => fun
  | [d1, d2, d3, d4] => { results := [.lit (.bool true)], args := [d1, d2, d3, d4] }
  | _ => none }
def lossTellsRow : OpenClaim := { program := "ytnoahloppffndaa", sum := "09e9aa28cd2c60dfcfc6b4c04d40f543ac012d6587a6e114f0e66fe79b8c369c", func := "lingua/lingualaw20.LossTells", spec := "lossTells", unfollowed := true, recurses := true, apart := false }
def LossTellsSaid : Prop := lossTellsRow.holds Try.pinned (OpenSpec.ofChange lossTellsSpec)

/-- ITS FALSE NEIGHBOUR: 'it returns false'. Refute it at one input. -/
def lossTellsWrong : ChangeSpec := { name := "lossTells", fn := fun _ => fun
  | [d1, d2, d3, d4] => { results := [.lit (.bool false)], args := [d1, d2, d3, d4] }
  | _ => none }
def LossTellsWrongFalsely : Prop := lossTellsRow.holds Try.pinned (OpenSpec.ofChange lossTellsWrong)

/-- 'lingualaw20.LossOne': WHATEVER THE INPUT: true; the input reads as it did. -/
def lossOneSpec : ChangeSpec := { name := "lossOne", fn := fun _ => fun
  | [d1, d2, d3] => { results := [.lit (.bool true)], args := [d1, d2, d3] }
  | _ => none }
def lossOneRow : OpenClaim := { program := "ytnoahloppffndaa", sum := "09e9aa28cd2c60dfcfc6b4c04d40f543ac012d6587a6e114f0e66fe79b8c369c", func := "lingua/lingualaw20.LossOne", spec := "lossOne", unfollowed := true, recurses := true, apart := false }
def LossOneSaid : Prop := lossOneRow.holds Try.pinned (OpenSpec.ofChange lossOneSpec)

/-- ITS FALSE NEIGHBOUR: 'it returns false'. Refute it at one input. -/
def lossOneWrong : ChangeSpec := { name := "lossOne", fn := fun _ => fun
  | [d1, d2, d3] => { results := [.lit (.bool false)], args := [d1, d2, d3] }
  | _ => none }
def LossOneWrongFalsely : Prop := lossOneRow.holds Try.pinned (OpenSpec.ofChange lossOneWrong)

/-- 'lingualaw20.LossWorse': WHATEVER THE INPUT: true; the input reads as it did. -/
def lossWorseSpec : ChangeSpec := { name := "lossWorse", fn := fun _ => fun
  | [d1, d2, d3] => { results := [.lit (.bool true)], args := [d1, d2, d3] }
  | _ => none }
def lossWorseRow : OpenClaim := { program := "ytnoahloppffndaa", sum := "09e9aa28cd2c60dfcfc6b4c04d40f543ac012d6587a6e114f0e66fe79b8c369c", func := "lingua/lingualaw20.LossWorse", spec := "lossWorse", unfollowed := true, recurses := true, apart := false }
def LossWorseSaid : Prop := lossWorseRow.holds Try.pinned (OpenSpec.ofChange lossWorseSpec)

/-- ITS FALSE NEIGHBOUR: 'it returns false'. Refute it at one input. -/
def lossWorseWrong : ChangeSpec := { name := "lossWorse", fn := fun _ => fun
  | [d1, d2, d3] => { results := [.lit (.bool false)], args := [d1, d2, d3] }
  | _ => none }
def LossWorseWrongFalsely : Prop := lossWorseRow.holds Try.pinned (OpenSpec.ofChange lossWorseWrong)

/-- 'lingualaw20.LossLong': WHATEVER THE INPUT: true; the input reads as it did. -/
def lossLongSpec : ChangeSpec := { name := "lossLong", fn := fun _ => fun
  | [d] => { results := [.lit (.bool true)], args := [d] }
  | _ => none }
def lossLongRow : OpenClaim := { program := "ytnoahloppffndaa", sum := "09e9aa28cd2c60dfcfc6b4c04d40f543ac012d6587a6e114f0e66fe79b8c369c", func := "lingua/lingualaw20.LossLong", spec := "lossLong", unfollowed := true, recurses := true, apart := false }
def LossLongSaid : Prop := lossLongRow.holds Try.pinned (OpenSpec.ofChange lossLongSpec)

/-- ITS FALSE NEIGHBOUR: 'it returns false'. Refute it at one input. -/
def lossLongWrong : ChangeSpec := { name := "lossLong", fn := fun _ => fun
  | [d] => { results := [.lit (.bool false)], args := [d] }
  | _ => none }
def LossLongWrongFalsely : Prop := lossLongRow.holds Try.pinned (OpenSpec.ofChange lossLongWrong)

/-- 'lingualaw20.LossMore': WHATEVER THE INPUT: true; the input reads as it did. -/
def lossMoreSpec : ChangeSpec := { name := "lossMore", fn := fun _ => fun
  | [d1, d2] => { results := [.lit (.bool true)], args := [d1, d2] }
  | _ => none }
def lossMoreRow : OpenClaim := { program := "ytnoahloppffndaa", sum := "09e9aa28cd2c60dfcfc6b4c04d40f543ac012d6587a6e114f0e66fe79b8c369c", func := "lingua/lingualaw20.LossMore", spec := "lossMore", unfollowed := true, recurses := true, apart := false }
def LossMoreSaid : Prop := lossMoreRow.holds Try.pinned (OpenSpec.ofChange lossMoreSpec)

/-- ITS FALSE NEIGHBOUR: 'it returns false'. Refute it at one input. -/
def lossMoreWrong : ChangeSpec := { name := "lossMore", fn := fun _ => fun
  | [d1, d2] => { results := [.lit (.bool false)], args := [d1, d2] }
  | _ => none }
def LossMoreWrongFalsely : Prop := lossMoreRow.holds Try.pinned (OpenSpec.ofChange lossMoreWrong)

/- THE SECOND FORM. 'bulk': how many values and letters a reading holds, each counted each time it is reached (what is shared counts as often as it is met; a slice's spare places count too). A statement '..UptoSaid' is the law's where the arguments, and the package variables that the reading takes, are together of bulk at most 1048576: NARROWER than '..Said'. Prove '..Said' where nothing that the law and all that it calls make is longer than what came in: it says more and counts as full. Else prove '..UptoSaid'. A law counts once. -/
mutual
def uptoBulk {H : Type} : DataW H → Nat
  | .lit (.string bytes) => bytes.length + 1
  | .lit _ => 1
  | .nil => 1
  | .ptr d => uptoBulk d + 1
  | .slice elems spare => uptoBulkAll elems + uptoBulkAll spare + 1
  | .agg parts => uptoBulkAll parts + 1
  | .iface _ d => uptoBulk d + 1
  | .map entries => uptoBulkEntries entries + 1
  | .held _ => 1
def uptoBulkAll {H : Type} : List (DataW H) → Nat
  | [] => 0
  | d :: r => uptoBulk d + uptoBulkAll r
def uptoBulkEntries {H : Type} : List (Lit × DataW H) → Nat
  | [] => 0
  | x :: r => uptoBulkEntry x + uptoBulkEntries r
def uptoBulkEntry {H : Type} : Lit × DataW H → Nat
  | (.string bytes, d) => bytes.length + uptoBulk d + 1
  | (_, d) => uptoBulk d + 1
 end
def uptoSmall : (H : Type) → List (DataW H) → Bool := fun _ ds => decide (uptoBulkAll ds ≤ 1048576)
def OpenSpec.upto (s : _root_.Go.ChangeSpec) : _root_.Go.OpenSpec := { _root_.Go.OpenSpec.ofChange s with cond := some uptoSmall }

/-- 'lingualaw20.LossTells', WHERE WHAT IT READS IS OF BULK AT MOST 1048576: true; the input reads as it did. -/
def lossTellsUptoRow : OpenClaim := { program := "ytnoahloppffndaa", sum := "09e9aa28cd2c60dfcfc6b4c04d40f543ac012d6587a6e114f0e66fe79b8c369c", func := "lingua/lingualaw20.LossTells", spec := "lossTells", unfollowed := true, recurses := true, apart := false, narrowed := true }
def LossTellsUptoSaid : Prop := lossTellsUptoRow.holds Try.pinned (OpenSpec.upto lossTellsSpec)

/-- 'lingualaw20.LossOne', WHERE WHAT IT READS IS OF BULK AT MOST 1048576: true; the input reads as it did. -/
def lossOneUptoRow : OpenClaim := { program := "ytnoahloppffndaa", sum := "09e9aa28cd2c60dfcfc6b4c04d40f543ac012d6587a6e114f0e66fe79b8c369c", func := "lingua/lingualaw20.LossOne", spec := "lossOne", unfollowed := true, recurses := true, apart := false, narrowed := true }
def LossOneUptoSaid : Prop := lossOneUptoRow.holds Try.pinned (OpenSpec.upto lossOneSpec)

/-- 'lingualaw20.LossWorse', WHERE WHAT IT READS IS OF BULK AT MOST 1048576: true; the input reads as it did. -/
def lossWorseUptoRow : OpenClaim := { program := "ytnoahloppffndaa", sum := "09e9aa28cd2c60dfcfc6b4c04d40f543ac012d6587a6e114f0e66fe79b8c369c", func := "lingua/lingualaw20.LossWorse", spec := "lossWorse", unfollowed := true, recurses := true, apart := false, narrowed := true }
def LossWorseUptoSaid : Prop := lossWorseUptoRow.holds Try.pinned (OpenSpec.upto lossWorseSpec)

/-- 'lingualaw20.LossLong', WHERE WHAT IT READS IS OF BULK AT MOST 1048576: true; the input reads as it did. -/
def lossLongUptoRow : OpenClaim := { program := "ytnoahloppffndaa", sum := "09e9aa28cd2c60dfcfc6b4c04d40f543ac012d6587a6e114f0e66fe79b8c369c", func := "lingua/lingualaw20.LossLong", spec := "lossLong", unfollowed := true, recurses := true, apart := false, narrowed := true }
def LossLongUptoSaid : Prop := lossLongUptoRow.holds Try.pinned (OpenSpec.upto lossLongSpec)

/-- 'lingualaw20.LossMore', WHERE WHAT IT READS IS OF BULK AT MOST 1048576: true; the input reads as it did. -/
def lossMoreUptoRow : OpenClaim := { program := "ytnoahloppffndaa", sum := "09e9aa28cd2c60dfcfc6b4c04d40f543ac012d6587a6e114f0e66fe79b8c369c", func := "lingua/lingualaw20.LossMore", spec := "lossMore", unfollowed := true, recurses := true, apart := false, narrowed := true }
def LossMoreUptoSaid : Prop := lossMoreUptoRow.holds Try.pinned (OpenSpec.upto lossMoreSpec)

end Rows
end Go.Proofs.Ytnoahloppffndaa
