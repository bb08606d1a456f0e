/-
  No cell of these rows narrows 'for every input' (looked for: loops, veiled, ifaces, maps, wideKeys, modest, calm, conditions, laid).
  DERIVED. THE GIVEN ROWS OF THIS SEAT. 4 by the template 'for every input the law returns true; each argument reads behind the call as it read before'; 0 by the template 'total and deterministic' (their statements: YtaogjbmgobfdoaaTotals.lean).
  GIVEN WITH THE SEED: the statements are not yours to turn. If you find one false, say at which input.
  Laid BY PROGRAM, IN A SANDBOX (cutbox-rows.mjs): the forced cells as the released guide's own fill.sh prints them over the translation 16818f827489230b… (all of the seat's roots in one cut). By AI agents, Wed Nov 11 2026. No macro, syntax, notation, axiom, sorry.
-/
import Derived.Test.YtaogjbmgobfdoaaChecked
import GoSem.Claim
import GoSem.ClaimJoined
import GoSem.ClaimMapViews
import Derived.JoinedTies
import Derived.KernelRfl
namespace Go.Proofs.Ytaogjbmgobfdoaa
/- THE CELL 'sum', in the pinned program and in every row, IS THE sha256 OF THE DUMP (.gsa) THAT YtaogjbmgobfdoaaProg.lean LOADS. Nothing in Lean hashes anything: it is a label: what it is worth is what the hold of that sum in a sandbox is worth. -/
noncomputable def Try.pinned : Pinned := { name := "ytaogjbmgobfdoaa", sum := "16818f827489230b2832277871e600c3a4bcfe0b1c451d505f622a1676d7ad56", checked := Try.checked }
namespace Rows
def none {H : Type} : Left H := { results := [], args := [] }

/-- 'lingualaw31.LinkTells': WHATEVER THE INPUT: true; the input reads as it did. -/
def linkTellsSpec : ChangeSpec := { name := "linkTells", fn := fun _ => fun
  | [d1, d2, d3] => { results := [.lit (.bool true)], args := [d1, d2, d3] }
  | _ => none }
def linkTellsRow : OpenClaim := { program := "ytaogjbmgobfdoaa", sum := "16818f827489230b2832277871e600c3a4bcfe0b1c451d505f622a1676d7ad56", func := "lingua/lingualaw31.LinkTells", spec := "linkTells", apart := false }
def LinkTellsSaid : Prop := linkTellsRow.holds Try.pinned (OpenSpec.ofChange linkTellsSpec)

/-- ITS FALSE NEIGHBOUR: 'it returns false'. Refute it at one input. -/
def linkTellsWrong : ChangeSpec := { name := "linkTells", fn := fun _ => fun
  | [d1, d2, d3] => { results := [.lit (.bool false)], args := [d1, d2, d3] }
  | _ => none }
def LinkTellsWrongFalsely : Prop := linkTellsRow.holds Try.pinned (OpenSpec.ofChange linkTellsWrong)

/-- 'lingualaw31.LinkOrder': WHATEVER THE INPUT: true; the input reads as it did. -/
def linkOrderSpec : ChangeSpec := { name := "linkOrder", fn := fun _ => fun
  | [d1, d2] => { results := [.lit (.bool true)], args := [d1, d2] }
  | _ => none }
def linkOrderRow : OpenClaim := { program := "ytaogjbmgobfdoaa", sum := "16818f827489230b2832277871e600c3a4bcfe0b1c451d505f622a1676d7ad56", func := "lingua/lingualaw31.LinkOrder", spec := "linkOrder", apart := false }
def LinkOrderSaid : Prop := linkOrderRow.holds Try.pinned (OpenSpec.ofChange linkOrderSpec)

/-- ITS FALSE NEIGHBOUR: 'it returns false'. Refute it at one input. -/
def linkOrderWrong : ChangeSpec := { name := "linkOrder", fn := fun _ => fun
  | [d1, d2] => { results := [.lit (.bool false)], args := [d1, d2] }
  | _ => none }
def LinkOrderWrongFalsely : Prop := linkOrderRow.holds Try.pinned (OpenSpec.ofChange linkOrderWrong)

/-- 'lingualaw31.LinkRounds': WHATEVER THE INPUT: true; the input reads as it did. -/
def linkRoundsSpec : ChangeSpec := { name := "linkRounds", fn := fun _ => fun
  | [d1, d2] => { results := [.lit (.bool true)], args := [d1, d2] }
  | _ => none }
def linkRoundsRow : OpenClaim := { program := "ytaogjbmgobfdoaa", sum := "16818f827489230b2832277871e600c3a4bcfe0b1c451d505f622a1676d7ad56", func := "lingua/lingualaw31.LinkRounds", spec := "linkRounds", apart := false }
def LinkRoundsSaid : Prop := linkRoundsRow.holds Try.pinned (OpenSpec.ofChange linkRoundsSpec)

/-- ITS FALSE NEIGHBOUR: 'it returns false'. Refute it at one input. -/
def linkRoundsWrong : ChangeSpec := { name := "linkRounds", fn := fun _ => fun
  | [d1, d2] => { results := [.lit (.bool false)], args := [d1, d2] }
  | _ => none }
def LinkRoundsWrongFalsely : Prop := linkRoundsRow.holds Try.pinned (OpenSpec.ofChange linkRoundsWrong)

/-- 'lingualaw31.LinkRefuses': WHATEVER THE INPUT: true; the input reads as it did. -/
def linkRefusesSpec : ChangeSpec := { name := "linkRefuses", fn := fun _ => fun
  | [d1, d2, d3] => { results := [.lit (.bool true)], args := [d1, d2, d3] }
  | _ => none }
def linkRefusesRow : OpenClaim := { program := "ytaogjbmgobfdoaa", sum := "16818f827489230b2832277871e600c3a4bcfe0b1c451d505f622a1676d7ad56", func := "lingua/lingualaw31.LinkRefuses", spec := "linkRefuses", inPlace := ["maps.clone"], apart := false }
def LinkRefusesSaid : Prop := linkRefusesRow.holds Try.pinned (OpenSpec.ofChange linkRefusesSpec)

/-- ITS FALSE NEIGHBOUR: 'it returns false'. Refute it at one input. -/
def linkRefusesWrong : ChangeSpec := { name := "linkRefuses", fn := fun _ => fun
  | [d1, d2, d3] => { results := [.lit (.bool false)], args := [d1, d2, d3] }
  | _ => none }
def LinkRefusesWrongFalsely : Prop := linkRefusesRow.holds Try.pinned (OpenSpec.ofChange linkRefusesWrong)

/- THE SECOND FORM. 'bulk': how many values and letters a reading holds, each counted each time it is reached (what is shared counts as often as it is met; a slice's spare places count too). A statement '..UptoSaid' is the law's where the arguments, and the package variables that the reading takes, are together of bulk at most 1048576: NARROWER than '..Said'. Prove '..Said' where nothing that the law and all that it calls make is longer than what came in: it says more and counts as full. Else prove '..UptoSaid'. A law counts once. -/
mutual
def uptoBulk {H : Type} : DataW H → Nat
  | .lit (.string bytes) => bytes.length + 1
  | .lit _ => 1
  | .nil => 1
  | .ptr d => uptoBulk d + 1
  | .slice elems spare => uptoBulkAll elems + uptoBulkAll spare + 1
  | .agg parts => uptoBulkAll parts + 1
  | .iface _ d => uptoBulk d + 1
  | .map entries => uptoBulkEntries entries + 1
  | .held _ => 1
def uptoBulkAll {H : Type} : List (DataW H) → Nat
  | [] => 0
  | d :: r => uptoBulk d + uptoBulkAll r
def uptoBulkEntries {H : Type} : List (Lit × DataW H) → Nat
  | [] => 0
  | x :: r => uptoBulkEntry x + uptoBulkEntries r
def uptoBulkEntry {H : Type} : Lit × DataW H → Nat
  | (.string bytes, d) => bytes.length + uptoBulk d + 1
  | (_, d) => uptoBulk d + 1
 end
def uptoSmall : (H : Type) → List (DataW H) → Bool := fun _ ds => decide (uptoBulkAll ds ≤ 1048576)
def OpenSpec.upto (s : _root_.Go.ChangeSpec) : _root_.Go.OpenSpec := { _root_.Go.OpenSpec.ofChange s with cond := some uptoSmall }

/-- 'lingualaw31.LinkTells', WHERE WHAT IT READS IS OF BULK AT MOST 1048576: true; the input reads as it did. -/
def linkTellsUptoRow : OpenClaim := { program := "ytaogjbmgobfdoaa", sum := "16818f827489230b2832277871e600c3a4bcfe0b1c451d505f622a1676d7ad56", func := "lingua/lingualaw31.LinkTells", spec := "linkTells", apart := false, narrowed := true }
def LinkTellsUptoSaid : Prop := linkTellsUptoRow.holds Try.pinned (OpenSpec.upto linkTellsSpec)

/-- 'lingualaw31.LinkOrder', WHERE WHAT IT READS IS OF BULK AT MOST 1048576: true; the input reads as it did. -/
def linkOrderUptoRow : OpenClaim := { program := "ytaogjbmgobfdoaa", sum := "16818f827489230b2832277871e600c3a4bcfe0b1c451d505f622a1676d7ad56", func := "lingua/lingualaw31.LinkOrder", spec := "linkOrder", apart := false, narrowed := true }
def LinkOrderUptoSaid : Prop := linkOrderUptoRow.holds Try.pinned (OpenSpec.upto linkOrderSpec)

/-- 'lingualaw31.LinkRounds', WHERE WHAT IT READS IS OF BULK AT MOST 1048576: true; the input reads as it did. -/
def linkRoundsUptoRow : OpenClaim := { program := "ytaogjbmgobfdoaa", sum := "16818f827489230b2832277871e600c3a4bcfe0b1c451d505f622a1676d7ad56", func := "lingua/lingualaw31.LinkRounds", spec := "linkRounds", apart := false, narrowed := true }
def LinkRoundsUptoSaid : Prop := linkRoundsUptoRow.holds Try.pinned (OpenSpec.upto linkRoundsSpec)

/-- 'lingualaw31.LinkRefuses', WHERE WHAT IT READS IS OF BULK AT MOST 1048576: true; the input reads as it did. -/
def linkRefusesUptoRow : OpenClaim := { program := "ytaogjbmgobfdoaa", sum := "16818f827489230b2832277871e600c3a4bcfe0b1c451d505f622a1676d7ad56", func := "lingua/lingualaw31.LinkRefuses", spec := "linkRefuses", inPlace := ["maps.clone"], apart := false, narrowed := true }
def LinkRefusesUptoSaid : Prop := linkRefusesUptoRow.holds Try.pinned (OpenSpec.upto linkRefusesSpec)

end Rows
end Go.Proofs.Ytaogjbmgobfdoaa
