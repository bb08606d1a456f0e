/-
  No cell of these rows narrows 'for every input' (looked for: loops, veiled, ifaces, maps, wideKeys, modest, calm, conditions, laid).
  DERIVED. THE GIVEN ROWS OF THIS SEAT. 4 by the template 'for every input the law returns true; each argument reads behind the call as it read before'; 0 by the template 'total and deterministic' (their statements: YtmnhehklhelpeaaTotals.lean).
  GIVEN WITH THE SEED: the statements are not yours to turn. If you find one false, say at which input.
  Laid BY PROGRAM, IN A SANDBOX (cutbox-rows.mjs): the forced cells as the released guide's own fill.sh prints them over the translation c496e4350d40bce1… (all of the seat's roots in one cut). By AI agents, Wed Nov 11 2026. No macro, syntax, notation, axiom, sorry.
-/
import Derived.Test.YtmnhehklhelpeaaChecked
import GoSem.Claim
import GoSem.ClaimJoined
import GoSem.ClaimMapViews
import Derived.JoinedTies
import Derived.KernelRfl
namespace Go.Proofs.Ytmnhehklhelpeaa
/- THE CELL 'sum', in the pinned program and in every row, IS THE sha256 OF THE DUMP (.gsa) THAT YtmnhehklhelpeaaProg.lean LOADS. Nothing in Lean hashes anything: it is a label: what it is worth is what the hold of that sum in a sandbox is worth. -/
noncomputable def Try.pinned : Pinned := { name := "ytmnhehklhelpeaa", sum := "c496e4350d40bce19998093936f441edc5ee58e295d0273b9ca511f02d26c687", checked := Try.checked }
namespace Rows
def none {H : Type} : Left H := { results := [], args := [] }

/-- 'lingualaw45.SealedOthers': WHATEVER THE INPUT: true; the input reads as it did. -/
def sealedOthersSpec : ChangeSpec := { name := "sealedOthers", fn := fun _ => fun
  | [d1, d2, d3, d4, d5, d6] => { results := [.lit (.bool true)], args := [d1, d2, d3, d4, d5, d6] }
  | _ => none }
def sealedOthersRow : OpenClaim := { program := "ytmnhehklhelpeaa", sum := "c496e4350d40bce19998093936f441edc5ee58e295d0273b9ca511f02d26c687", func := "lingua/lingualaw45.SealedOthers", spec := "sealedOthers", apart := false }
def SealedOthersSaid : Prop := sealedOthersRow.holds Try.pinned (OpenSpec.ofChange sealedOthersSpec)

/-- ITS FALSE NEIGHBOUR: 'it returns false'. Refute it at one input. -/
def sealedOthersWrong : ChangeSpec := { name := "sealedOthers", fn := fun _ => fun
  | [d1, d2, d3, d4, d5, d6] => { results := [.lit (.bool false)], args := [d1, d2, d3, d4, d5, d6] }
  | _ => none }
def SealedOthersWrongFalsely : Prop := sealedOthersRow.holds Try.pinned (OpenSpec.ofChange sealedOthersWrong)

/-- 'lingualaw45.SealedBlind': WHATEVER THE INPUT: true; the input reads as it did. -/
def sealedBlindSpec : ChangeSpec := { name := "sealedBlind", fn := fun _ => fun
  | [d1, d2] => { results := [.lit (.bool true)], args := [d1, d2] }
  | _ => none }
def sealedBlindRow : OpenClaim := { program := "ytmnhehklhelpeaa", sum := "c496e4350d40bce19998093936f441edc5ee58e295d0273b9ca511f02d26c687", func := "lingua/lingualaw45.SealedBlind", spec := "sealedBlind", apart := false }
def SealedBlindSaid : Prop := sealedBlindRow.holds Try.pinned (OpenSpec.ofChange sealedBlindSpec)

/-- ITS FALSE NEIGHBOUR: 'it returns false'. Refute it at one input. -/
def sealedBlindWrong : ChangeSpec := { name := "sealedBlind", fn := fun _ => fun
  | [d1, d2] => { results := [.lit (.bool false)], args := [d1, d2] }
  | _ => none }
def SealedBlindWrongFalsely : Prop := sealedBlindRow.holds Try.pinned (OpenSpec.ofChange sealedBlindWrong)

/-- 'lingualaw45.SealedOpens': WHATEVER THE INPUT: true; the input reads as it did. -/
def sealedOpensSpec : ChangeSpec := { name := "sealedOpens", fn := fun _ => fun
  | [d1, d2, d3, d4, d5, d6, d7] => { results := [.lit (.bool true)], args := [d1, d2, d3, d4, d5, d6, d7] }
  | _ => none }
def sealedOpensRow : OpenClaim := { program := "ytmnhehklhelpeaa", sum := "c496e4350d40bce19998093936f441edc5ee58e295d0273b9ca511f02d26c687", func := "lingua/lingualaw45.SealedOpens", spec := "sealedOpens", apart := false }
def SealedOpensSaid : Prop := sealedOpensRow.holds Try.pinned (OpenSpec.ofChange sealedOpensSpec)

/-- ITS FALSE NEIGHBOUR: 'it returns false'. Refute it at one input. -/
def sealedOpensWrong : ChangeSpec := { name := "sealedOpens", fn := fun _ => fun
  | [d1, d2, d3, d4, d5, d6, d7] => { results := [.lit (.bool false)], args := [d1, d2, d3, d4, d5, d6, d7] }
  | _ => none }
def SealedOpensWrongFalsely : Prop := sealedOpensRow.holds Try.pinned (OpenSpec.ofChange sealedOpensWrong)

/-- 'lingualaw45.SealedTells': WHATEVER THE INPUT: true; the input reads as it did. -/
def sealedTellsSpec : ChangeSpec := { name := "sealedTells", fn := fun _ => fun
  | [d] => { results := [.lit (.bool true)], args := [d] }
  | _ => none }
def sealedTellsRow : OpenClaim := { program := "ytmnhehklhelpeaa", sum := "c496e4350d40bce19998093936f441edc5ee58e295d0273b9ca511f02d26c687", func := "lingua/lingualaw45.SealedTells", spec := "sealedTells", apart := false }
def SealedTellsSaid : Prop := sealedTellsRow.holds Try.pinned (OpenSpec.ofChange sealedTellsSpec)

/-- ITS FALSE NEIGHBOUR: 'it returns false'. Refute it at one input. -/
def sealedTellsWrong : ChangeSpec := { name := "sealedTells", fn := fun _ => fun
  | [d] => { results := [.lit (.bool false)], args := [d] }
  | _ => none }
def SealedTellsWrongFalsely : Prop := sealedTellsRow.holds Try.pinned (OpenSpec.ofChange sealedTellsWrong)

/- THE SECOND FORM. 'bulk': how many values and letters a reading holds, each counted each time it is reached (what is shared counts as often as it is met; a slice's spare places count too). A statement '..UptoSaid' is the law's where the arguments, and the package variables that the reading takes, are together of bulk at most 1048576: NARROWER than '..Said'. Prove '..Said' where nothing that the law and all that it calls make is longer than what came in: it says more and counts as full. Else prove '..UptoSaid'. A law counts once. -/
mutual
def uptoBulk {H : Type} : DataW H → Nat
  | .lit (.string bytes) => bytes.length + 1
  | .lit _ => 1
  | .nil => 1
  | .ptr d => uptoBulk d + 1
  | .slice elems spare => uptoBulkAll elems + uptoBulkAll spare + 1
  | .agg parts => uptoBulkAll parts + 1
  | .iface _ d => uptoBulk d + 1
  | .map entries => uptoBulkEntries entries + 1
  | .held _ => 1
def uptoBulkAll {H : Type} : List (DataW H) → Nat
  | [] => 0
  | d :: r => uptoBulk d + uptoBulkAll r
def uptoBulkEntries {H : Type} : List (Lit × DataW H) → Nat
  | [] => 0
  | x :: r => uptoBulkEntry x + uptoBulkEntries r
def uptoBulkEntry {H : Type} : Lit × DataW H → Nat
  | (.string bytes, d) => bytes.length + uptoBulk d + 1
  | (_, d) => uptoBulk d + 1
 end
def uptoSmall : (H : Type) → List (DataW H) → Bool := fun _ ds => decide (uptoBulkAll ds ≤ 1048576)
def OpenSpec.upto (s : _root_.Go.ChangeSpec) : _root_.Go.OpenSpec := { _root_.Go.OpenSpec.ofChange s with cond := some uptoSmall }

/-- 'lingualaw45.SealedOthers', WHERE WHAT IT READS IS OF BULK AT MOST 1048576: true; the input reads as it did. -/
def sealedOthersUptoRow : OpenClaim := { program := "ytmnhehklhelpeaa", sum := "c496e4350d40bce19998093936f441edc5ee58e295d0273b9ca511f02d26c687", func := "lingua/lingualaw45.SealedOthers", spec := "sealedOthers", apart := false, narrowed := true }
def SealedOthersUptoSaid : Prop := sealedOthersUptoRow.holds Try.pinned (OpenSpec.upto sealedOthersSpec)

/-- 'lingualaw45.SealedBlind', WHERE WHAT IT READS IS OF BULK AT MOST 1048576: true; the input reads as it did. -/
def sealedBlindUptoRow : OpenClaim := { program := "ytmnhehklhelpeaa", sum := "c496e4350d40bce19998093936f441edc5ee58e295d0273b9ca511f02d26c687", func := "lingua/lingualaw45.SealedBlind", spec := "sealedBlind", apart := false, narrowed := true }
def SealedBlindUptoSaid : Prop := sealedBlindUptoRow.holds Try.pinned (OpenSpec.upto sealedBlindSpec)

/-- 'lingualaw45.SealedOpens', WHERE WHAT IT READS IS OF BULK AT MOST 1048576: true; the input reads as it did. -/
def sealedOpensUptoRow : OpenClaim := { program := "ytmnhehklhelpeaa", sum := "c496e4350d40bce19998093936f441edc5ee58e295d0273b9ca511f02d26c687", func := "lingua/lingualaw45.SealedOpens", spec := "sealedOpens", apart := false, narrowed := true }
def SealedOpensUptoSaid : Prop := sealedOpensUptoRow.holds Try.pinned (OpenSpec.upto sealedOpensSpec)

/-- 'lingualaw45.SealedTells', WHERE WHAT IT READS IS OF BULK AT MOST 1048576: true; the input reads as it did. -/
def sealedTellsUptoRow : OpenClaim := { program := "ytmnhehklhelpeaa", sum := "c496e4350d40bce19998093936f441edc5ee58e295d0273b9ca511f02d26c687", func := "lingua/lingualaw45.SealedTells", spec := "sealedTells", apart := false, narrowed := true }
def SealedTellsUptoSaid : Prop := sealedTellsUptoRow.holds Try.pinned (OpenSpec.upto sealedTellsSpec)

end Rows
end Go.Proofs.Ytmnhehklhelpeaa
