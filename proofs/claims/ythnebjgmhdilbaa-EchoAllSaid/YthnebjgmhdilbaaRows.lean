/-
  No cell of these rows narrows 'for every input' (looked for: loops, veiled, ifaces, maps, wideKeys, modest, calm, conditions, laid).
  DERIVED. THE GIVEN ROWS OF THIS SEAT. 4 by the template 'for every input the law returns true; each argument reads behind the call as it read before'; 0 by the template 'total and deterministic' (their statements: YthnebjgmhdilbaaTotals.lean).
  GIVEN WITH THE SEED: the statements are not yours to turn. If you find one false, say at which input.
  Laid BY PROGRAM, IN A SANDBOX (cutbox-rows.mjs): the forced cells as the released guide's own fill.sh prints them over the translation a0c45508fd51bd6e… (all of the seat's roots in one cut). By AI agents, Wed Nov 11 2026. No macro, syntax, notation, axiom, sorry.
-/
import Derived.Test.YthnebjgmhdilbaaChecked
import GoSem.Claim
import GoSem.ClaimJoined
import GoSem.ClaimMapViews
import Derived.JoinedTies
import Derived.KernelRfl
namespace Go.Proofs.Ythnebjgmhdilbaa
/- THE CELL 'sum', in the pinned program and in every row, IS THE sha256 OF THE DUMP (.gsa) THAT YthnebjgmhdilbaaProg.lean LOADS. Nothing in Lean hashes anything: it is a label: what it is worth is what the hold of that sum in a sandbox is worth. -/
noncomputable def Try.pinned : Pinned := { name := "ythnebjgmhdilbaa", sum := "a0c45508fd51bd6e200b7203d569141e514b656bfd6f1ef6dcee2b90b807a7fb", checked := Try.checked }
namespace Rows
def none {H : Type} : Left H := { results := [], args := [] }

/-- 'lingualaw36.EchoTells': WHATEVER THE INPUT: true; the input reads as it did. -/
def echoTellsSpec : ChangeSpec := { name := "echoTells", fn := fun _ => fun
  | [d1, d2, d3] => { results := [.lit (.bool true)], args := [d1, d2, d3] }
  | _ => none }
def echoTellsRow : OpenClaim := { program := "ythnebjgmhdilbaa", sum := "a0c45508fd51bd6e200b7203d569141e514b656bfd6f1ef6dcee2b90b807a7fb", func := "lingua/lingualaw36.EchoTells", spec := "echoTells", unfollowed := true, recurses := true, apart := false }
def EchoTellsSaid : Prop := echoTellsRow.holds Try.pinned (OpenSpec.ofChange echoTellsSpec)

/-- ITS FALSE NEIGHBOUR: 'it returns false'. Refute it at one input. -/
def echoTellsWrong : ChangeSpec := { name := "echoTells", fn := fun _ => fun
  | [d1, d2, d3] => { results := [.lit (.bool false)], args := [d1, d2, d3] }
  | _ => none }
def EchoTellsWrongFalsely : Prop := echoTellsRow.holds Try.pinned (OpenSpec.ofChange echoTellsWrong)

/-- 'lingualaw36.EchoPairs': WHATEVER THE INPUT: true; the input reads as it did. -/
def echoPairsSpec : ChangeSpec := { name := "echoPairs", fn := fun _ => fun
  | [d1, d2, d3] => { results := [.lit (.bool true)], args := [d1, d2, d3] }
  | _ => none }
def echoPairsRow : OpenClaim := { program := "ythnebjgmhdilbaa", sum := "a0c45508fd51bd6e200b7203d569141e514b656bfd6f1ef6dcee2b90b807a7fb", func := "lingua/lingualaw36.EchoPairs", spec := "echoPairs", unfollowed := true, recurses := true, apart := false }
def EchoPairsSaid : Prop := echoPairsRow.holds Try.pinned (OpenSpec.ofChange echoPairsSpec)

/-- ITS FALSE NEIGHBOUR: 'it returns false'. Refute it at one input. -/
def echoPairsWrong : ChangeSpec := { name := "echoPairs", fn := fun _ => fun
  | [d1, d2, d3] => { results := [.lit (.bool false)], args := [d1, d2, d3] }
  | _ => none }
def EchoPairsWrongFalsely : Prop := echoPairsRow.holds Try.pinned (OpenSpec.ofChange echoPairsWrong)

/-- 'lingualaw36.EchoGrows': WHATEVER THE INPUT: true; the input reads as it did. -/
def echoGrowsSpec : ChangeSpec := { name := "echoGrows", fn := fun _ => fun
  | [d1, d2, d3, d4, d5] => { results := [.lit (.bool true)], args := [d1, d2, d3, d4, d5] }
  | _ => none }
def echoGrowsRow : OpenClaim := { program := "ythnebjgmhdilbaa", sum := "a0c45508fd51bd6e200b7203d569141e514b656bfd6f1ef6dcee2b90b807a7fb", func := "lingua/lingualaw36.EchoGrows", spec := "echoGrows", unfollowed := true, recurses := true, apart := false }
def EchoGrowsSaid : Prop := echoGrowsRow.holds Try.pinned (OpenSpec.ofChange echoGrowsSpec)

/-- ITS FALSE NEIGHBOUR: 'it returns false'. Refute it at one input. -/
def echoGrowsWrong : ChangeSpec := { name := "echoGrows", fn := fun _ => fun
  | [d1, d2, d3, d4, d5] => { results := [.lit (.bool false)], args := [d1, d2, d3, d4, d5] }
  | _ => none }
def EchoGrowsWrongFalsely : Prop := echoGrowsRow.holds Try.pinned (OpenSpec.ofChange echoGrowsWrong)

/-- 'lingualaw36.EchoAll': WHATEVER THE INPUT: true; the input reads as it did. -/
def echoAllSpec : ChangeSpec := { name := "echoAll", fn := fun _ => fun
  | [d1, d2, d3, d4] => { results := [.lit (.bool true)], args := [d1, d2, d3, d4] }
  | _ => none }
def echoAllRow : OpenClaim := { program := "ythnebjgmhdilbaa", sum := "a0c45508fd51bd6e200b7203d569141e514b656bfd6f1ef6dcee2b90b807a7fb", func := "lingua/lingualaw36.EchoAll", spec := "echoAll", unfollowed := true, recurses := true, apart := false }
def EchoAllSaid : Prop := echoAllRow.holds Try.pinned (OpenSpec.ofChange echoAllSpec)

/-- ITS FALSE NEIGHBOUR: 'it returns false'. Refute it at one input. -/
def echoAllWrong : ChangeSpec := { name := "echoAll", fn := fun _ => fun
  | [d1, d2, d3, d4] => { results := [.lit (.bool false)], args := [d1, d2, d3, d4] }
  | _ => none }
def EchoAllWrongFalsely : Prop := echoAllRow.holds Try.pinned (OpenSpec.ofChange echoAllWrong)

/- THE SECOND FORM. 'bulk': how many values and letters a reading holds, each counted each time it is reached (what is shared counts as often as it is met; a slice's spare places count too). A statement '..UptoSaid' is the law's where the arguments, and the package variables that the reading takes, are together of bulk at most 1048576: NARROWER than '..Said'. Prove '..Said' where nothing that the law and all that it calls make is longer than what came in: it says more and counts as full. Else prove '..UptoSaid'. A law counts once. -/
mutual
def uptoBulk {H : Type} : DataW H → Nat
  | .lit (.string bytes) => bytes.length + 1
  | .lit _ => 1
  | .nil => 1
  | .ptr d => uptoBulk d + 1
  | .slice elems spare => uptoBulkAll elems + uptoBulkAll spare + 1
  | .agg parts => uptoBulkAll parts + 1
  | .iface _ d => uptoBulk d + 1
  | .map entries => uptoBulkEntries entries + 1
  | .held _ => 1
def uptoBulkAll {H : Type} : List (DataW H) → Nat
  | [] => 0
  | d :: r => uptoBulk d + uptoBulkAll r
def uptoBulkEntries {H : Type} : List (Lit × DataW H) → Nat
  | [] => 0
  | x :: r => uptoBulkEntry x + uptoBulkEntries r
def uptoBulkEntry {H : Type} : Lit × DataW H → Nat
  | (.string bytes, d) => bytes.length + uptoBulk d + 1
  | (_, d) => uptoBulk d + 1
 end
def uptoSmall : (H : Type) → List (DataW H) → Bool := fun _ ds => decide (uptoBulkAll ds ≤ 1048576)
def OpenSpec.upto (s : _root_.Go.ChangeSpec) : _root_.Go.OpenSpec := { _root_.Go.OpenSpec.ofChange s with cond := some uptoSmall }

/-- 'lingualaw36.EchoTells', WHERE WHAT IT READS IS OF BULK AT MOST 1048576: true; the input reads as it did. -/
def echoTellsUptoRow : OpenClaim := { program := "ythnebjgmhdilbaa", sum := "a0c45508fd51bd6e200b7203d569141e514b656bfd6f1ef6dcee2b90b807a7fb", func := "lingua/lingualaw36.EchoTells", spec := "echoTells", unfollowed := true, recurses := true, apart := false, narrowed := true }
def EchoTellsUptoSaid : Prop := echoTellsUptoRow.holds Try.pinned (OpenSpec.upto echoTellsSpec)

/-- 'lingualaw36.EchoPairs', WHERE WHAT IT READS IS OF BULK AT MOST 1048576: true; the input reads as it did. -/
def echoPairsUptoRow : OpenClaim := { program := "ythnebjgmhdilbaa", sum := "a0c45508fd51bd6e200b7203d569141e514b656bfd6f1ef6dcee2b90b807a7fb", func := "lingua/lingualaw36.EchoPairs", spec := "echoPairs", unfollowed := true, recurses := true, apart := false, narrowed := true }
def EchoPairsUptoSaid : Prop := echoPairsUptoRow.holds Try.pinned (OpenSpec.upto echoPairsSpec)

/-- 'lingualaw36.EchoGrows', WHERE WHAT IT READS IS OF BULK AT MOST 1048576: true; the input reads as it did. -/
def echoGrowsUptoRow : OpenClaim := { program := "ythnebjgmhdilbaa", sum := "a0c45508fd51bd6e200b7203d569141e514b656bfd6f1ef6dcee2b90b807a7fb", func := "lingua/lingualaw36.EchoGrows", spec := "echoGrows", unfollowed := true, recurses := true, apart := false, narrowed := true }
def EchoGrowsUptoSaid : Prop := echoGrowsUptoRow.holds Try.pinned (OpenSpec.upto echoGrowsSpec)

/-- 'lingualaw36.EchoAll', WHERE WHAT IT READS IS OF BULK AT MOST 1048576: true; the input reads as it did. -/
def echoAllUptoRow : OpenClaim := { program := "ythnebjgmhdilbaa", sum := "a0c45508fd51bd6e200b7203d569141e514b656bfd6f1ef6dcee2b90b807a7fb", func := "lingua/lingualaw36.EchoAll", spec := "echoAll", unfollowed := true, recurses := true, apart := false, narrowed := true }
def EchoAllUptoSaid : Prop := echoAllUptoRow.holds Try.pinned (OpenSpec.upto echoAllSpec)

end Rows
end Go.Proofs.Ythnebjgmhdilbaa
