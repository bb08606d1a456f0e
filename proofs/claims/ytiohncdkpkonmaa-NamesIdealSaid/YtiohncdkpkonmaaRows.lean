/-
  No cell of these rows narrows 'for every input' (looked for: loops, veiled, ifaces, maps, wideKeys, modest, calm, conditions, laid).
  DERIVED. THE GIVEN ROWS OF THIS SEAT. 4 by the template 'for every input the law returns true; each argument reads behind the call as it read before'; 0 by the template 'total and deterministic' (their statements: YtiohncdkpkonmaaTotals.lean).
  GIVEN WITH THE SEED: the statements are not yours to turn. If you find one false, say at which input.
  Laid BY PROGRAM, IN A SANDBOX (cutbox-rows.mjs): the forced cells as the released guide's own fill.sh prints them over the translation f4561451f95d8fc6… (all of the seat's roots in one cut). By AI agents, Wed Nov 11 2026. No macro, syntax, notation, axiom, sorry.
-/
import Derived.Test.YtiohncdkpkonmaaChecked
import GoSem.Claim
import GoSem.ClaimJoined
import GoSem.ClaimMapViews
import Derived.JoinedTies
import Derived.KernelRfl
namespace Go.Proofs.Ytiohncdkpkonmaa
/- THE CELL 'sum', in the pinned program and in every row, IS THE sha256 OF THE DUMP (.gsa) THAT YtiohncdkpkonmaaProg.lean LOADS. Nothing in Lean hashes anything: it is a label: what it is worth is what the hold of that sum in a sandbox is worth. -/
noncomputable def Try.pinned : Pinned := { name := "ytiohncdkpkonmaa", sum := "f4561451f95d8fc6328a7c57f02ec95ac9fecff7d2711d7bec1978c070acb07e", checked := Try.checked }
namespace Rows
def none {H : Type} : Left H := { results := [], args := [] }

/-- 'lingualaw04.NamesTells': WHATEVER THE INPUT: true; the input reads as it did. -/
def namesTellsSpec : ChangeSpec := { name := "namesTells", fn := fun _ => fun
  | [d1, d2, d3, d4] => { results := [.lit (.bool true)], args := [d1, d2, d3, d4] }
  | _ => none }
def namesTellsRow : OpenClaim := { program := "ytiohncdkpkonmaa", sum := "f4561451f95d8fc6328a7c57f02ec95ac9fecff7d2711d7bec1978c070acb07e", func := "lingua/lingualaw04.NamesTells", spec := "namesTells", apart := false }
def NamesTellsSaid : Prop := namesTellsRow.holds Try.pinned (OpenSpec.ofChange namesTellsSpec)

/-- ITS FALSE NEIGHBOUR: 'it returns false'. Refute it at one input. -/
def namesTellsWrong : ChangeSpec := { name := "namesTells", fn := fun _ => fun
  | [d1, d2, d3, d4] => { results := [.lit (.bool false)], args := [d1, d2, d3, d4] }
  | _ => none }
def NamesTellsWrongFalsely : Prop := namesTellsRow.holds Try.pinned (OpenSpec.ofChange namesTellsWrong)

/-- 'lingualaw04.NamesIdeal': WHATEVER THE INPUT: true; the input reads as it did. -/
def namesIdealSpec : ChangeSpec := { name := "namesIdeal", fn := fun _ => fun
  | [d] => { results := [.lit (.bool true)], args := [d] }
  | _ => none }
def namesIdealRow : OpenClaim := { program := "ytiohncdkpkonmaa", sum := "f4561451f95d8fc6328a7c57f02ec95ac9fecff7d2711d7bec1978c070acb07e", func := "lingua/lingualaw04.NamesIdeal", spec := "namesIdeal", apart := false }
def NamesIdealSaid : Prop := namesIdealRow.holds Try.pinned (OpenSpec.ofChange namesIdealSpec)

/-- ITS FALSE NEIGHBOUR: 'it returns false'. Refute it at one input. -/
def namesIdealWrong : ChangeSpec := { name := "namesIdeal", fn := fun _ => fun
  | [d] => { results := [.lit (.bool false)], args := [d] }
  | _ => none }
def NamesIdealWrongFalsely : Prop := namesIdealRow.holds Try.pinned (OpenSpec.ofChange namesIdealWrong)

/-- 'lingualaw04.NamesOpen': WHATEVER THE INPUT: true; the input reads as it did. -/
def namesOpenSpec : ChangeSpec := { name := "namesOpen", fn := fun _ => fun
  | [d1, d2] => { results := [.lit (.bool true)], args := [d1, d2] }
  | _ => none }
def namesOpenRow : OpenClaim := { program := "ytiohncdkpkonmaa", sum := "f4561451f95d8fc6328a7c57f02ec95ac9fecff7d2711d7bec1978c070acb07e", func := "lingua/lingualaw04.NamesOpen", spec := "namesOpen", apart := false }
def NamesOpenSaid : Prop := namesOpenRow.holds Try.pinned (OpenSpec.ofChange namesOpenSpec)

/-- ITS FALSE NEIGHBOUR: 'it returns false'. Refute it at one input. -/
def namesOpenWrong : ChangeSpec := { name := "namesOpen", fn := fun _ => fun
  | [d1, d2] => { results := [.lit (.bool false)], args := [d1, d2] }
  | _ => none }
def NamesOpenWrongFalsely : Prop := namesOpenRow.holds Try.pinned (OpenSpec.ofChange namesOpenWrong)

/-- 'lingualaw04.NamesCopies': WHATEVER THE INPUT: true; the input reads as it did. -/
def namesCopiesSpec : ChangeSpec := { name := "namesCopies", fn := fun _ => fun
  | [d1, d2, d3] => { results := [.lit (.bool true)], args := [d1, d2, d3] }
  | _ => none }
def namesCopiesRow : OpenClaim := { program := "ytiohncdkpkonmaa", sum := "f4561451f95d8fc6328a7c57f02ec95ac9fecff7d2711d7bec1978c070acb07e", func := "lingua/lingualaw04.NamesCopies", spec := "namesCopies", inPlace := ["maps.clone"], apart := false }
def NamesCopiesSaid : Prop := namesCopiesRow.holds Try.pinned (OpenSpec.ofChange namesCopiesSpec)

/-- ITS FALSE NEIGHBOUR: 'it returns false'. Refute it at one input. -/
def namesCopiesWrong : ChangeSpec := { name := "namesCopies", fn := fun _ => fun
  | [d1, d2, d3] => { results := [.lit (.bool false)], args := [d1, d2, d3] }
  | _ => none }
def NamesCopiesWrongFalsely : Prop := namesCopiesRow.holds Try.pinned (OpenSpec.ofChange namesCopiesWrong)

/- THE SECOND FORM. 'bulk': how many values and letters a reading holds, each counted each time it is reached (what is shared counts as often as it is met; a slice's spare places count too). A statement '..UptoSaid' is the law's where the arguments, and the package variables that the reading takes, are together of bulk at most 1048576: NARROWER than '..Said'. Prove '..Said' where nothing that the law and all that it calls make is longer than what came in: it says more and counts as full. Else prove '..UptoSaid'. A law counts once. -/
mutual
def uptoBulk {H : Type} : DataW H → Nat
  | .lit (.string bytes) => bytes.length + 1
  | .lit _ => 1
  | .nil => 1
  | .ptr d => uptoBulk d + 1
  | .slice elems spare => uptoBulkAll elems + uptoBulkAll spare + 1
  | .agg parts => uptoBulkAll parts + 1
  | .iface _ d => uptoBulk d + 1
  | .map entries => uptoBulkEntries entries + 1
  | .held _ => 1
def uptoBulkAll {H : Type} : List (DataW H) → Nat
  | [] => 0
  | d :: r => uptoBulk d + uptoBulkAll r
def uptoBulkEntries {H : Type} : List (Lit × DataW H) → Nat
  | [] => 0
  | x :: r => uptoBulkEntry x + uptoBulkEntries r
def uptoBulkEntry {H : Type} : Lit × DataW H → Nat
  | (.string bytes, d) => bytes.length + uptoBulk d + 1
  | (_, d) => uptoBulk d + 1
 end
def uptoSmall : (H : Type) → List (DataW H) → Bool := fun _ ds => decide (uptoBulkAll ds ≤ 1048576)
def OpenSpec.upto (s : _root_.Go.ChangeSpec) : _root_.Go.OpenSpec := { _root_.Go.OpenSpec.ofChange s with cond := some uptoSmall }

/-- 'lingualaw04.NamesTells', WHERE WHAT IT READS IS OF BULK AT MOST 1048576: true; the input reads as it did. -/
def namesTellsUptoRow : OpenClaim := { program := "ytiohncdkpkonmaa", sum := "f4561451f95d8fc6328a7c57f02ec95ac9fecff7d2711d7bec1978c070acb07e", func := "lingua/lingualaw04.NamesTells", spec := "namesTells", apart := false, narrowed := true }
def NamesTellsUptoSaid : Prop := namesTellsUptoRow.holds Try.pinned (OpenSpec.upto namesTellsSpec)

/-- 'lingualaw04.NamesIdeal', WHERE WHAT IT READS IS OF BULK AT MOST 1048576: true; the input reads as it did. -/
def namesIdealUptoRow : OpenClaim := { program := "ytiohncdkpkonmaa", sum := "f4561451f95d8fc6328a7c57f02ec95ac9fecff7d2711d7bec1978c070acb07e", func := "lingua/lingualaw04.NamesIdeal", spec := "namesIdeal", apart := false, narrowed := true }
def NamesIdealUptoSaid : Prop := namesIdealUptoRow.holds Try.pinned (OpenSpec.upto namesIdealSpec)

/-- 'lingualaw04.NamesOpen', WHERE WHAT IT READS IS OF BULK AT MOST 1048576: true; the input reads as it did. -/
def namesOpenUptoRow : OpenClaim := { program := "ytiohncdkpkonmaa", sum := "f4561451f95d8fc6328a7c57f02ec95ac9fecff7d2711d7bec1978c070acb07e", func := "lingua/lingualaw04.NamesOpen", spec := "namesOpen", apart := false, narrowed := true }
def NamesOpenUptoSaid : Prop := namesOpenUptoRow.holds Try.pinned (OpenSpec.upto namesOpenSpec)

/-- 'lingualaw04.NamesCopies', WHERE WHAT IT READS IS OF BULK AT MOST 1048576: true; the input reads as it did. -/
def namesCopiesUptoRow : OpenClaim := { program := "ytiohncdkpkonmaa", sum := "f4561451f95d8fc6328a7c57f02ec95ac9fecff7d2711d7bec1978c070acb07e", func := "lingua/lingualaw04.NamesCopies", spec := "namesCopies", inPlace := ["maps.clone"], apart := false, narrowed := true }
def NamesCopiesUptoSaid : Prop := namesCopiesUptoRow.holds Try.pinned (OpenSpec.upto namesCopiesSpec)

end Rows
end Go.Proofs.Ytiohncdkpkonmaa
