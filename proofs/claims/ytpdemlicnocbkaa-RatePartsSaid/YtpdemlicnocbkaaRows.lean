/-
  No cell of these rows narrows 'for every input' (looked for: loops, veiled, ifaces, maps, wideKeys, modest, calm, conditions, laid).
  DERIVED. THE GIVEN ROWS OF THIS SEAT. 4 by the template 'for every input the law returns true; each argument reads behind the call as it read before'; 0 by the template 'total and deterministic' (their statements: YtpdemlicnocbkaaTotals.lean).
  GIVEN WITH THE SEED: the statements are not yours to turn. If you find one false, say at which input.
  Laid BY PROGRAM, IN A SANDBOX (cutbox-rows.mjs): the forced cells as the released guide's own fill.sh prints them over the translation 531d4f0bd1fec044… (all of the seat's roots in one cut). By AI agents, Wed Nov 11 2026. No macro, syntax, notation, axiom, sorry.
-/
import Derived.Test.YtpdemlicnocbkaaChecked
import GoSem.Claim
import GoSem.ClaimJoined
import GoSem.ClaimMapViews
import Derived.JoinedTies
import Derived.KernelRfl
namespace Go.Proofs.Ytpdemlicnocbkaa
/- THE CELL 'sum', in the pinned program and in every row, IS THE sha256 OF THE DUMP (.gsa) THAT YtpdemlicnocbkaaProg.lean LOADS. Nothing in Lean hashes anything: it is a label: what it is worth is what the hold of that sum in a sandbox is worth. -/
noncomputable def Try.pinned : Pinned := { name := "ytpdemlicnocbkaa", sum := "531d4f0bd1fec044e320ff456aef3f336d4342c9da877489d2d92f611e524073", checked := Try.checked }
namespace Rows
def none {H : Type} : Left H := { results := [], args := [] }

/-- 'lingualaw09.RateTells': WHATEVER THE INPUT: true; the input reads as it did. -/
def rateTellsSpec : ChangeSpec := { name := "rateTells", fn := fun _ => fun
  | [d1, d2, d3, d4, d5, d6] => { results := [.lit (.bool true)], args := [d1, d2, d3, d4, d5, d6] }
  | _ => none }
def rateTellsRow : OpenClaim := { program := "ytpdemlicnocbkaa", sum := "531d4f0bd1fec044e320ff456aef3f336d4342c9da877489d2d92f611e524073", func := "lingua/lingualaw09.RateTells", spec := "rateTells", apart := false }
def RateTellsSaid : Prop := rateTellsRow.holds Try.pinned (OpenSpec.ofChange rateTellsSpec)

/-- ITS FALSE NEIGHBOUR: 'it returns false'. Refute it at one input. -/
def rateTellsWrong : ChangeSpec := { name := "rateTells", fn := fun _ => fun
  | [d1, d2, d3, d4, d5, d6] => { results := [.lit (.bool false)], args := [d1, d2, d3, d4, d5, d6] }
  | _ => none }
def RateTellsWrongFalsely : Prop := rateTellsRow.holds Try.pinned (OpenSpec.ofChange rateTellsWrong)

/-- 'lingualaw09.RateBounds': WHATEVER THE INPUT: true; the input reads as it did. -/
def rateBoundsSpec : ChangeSpec := { name := "rateBounds", fn := fun _ => fun
  | [d1, d2, d3, d4] => { results := [.lit (.bool true)], args := [d1, d2, d3, d4] }
  | _ => none }
def rateBoundsRow : OpenClaim := { program := "ytpdemlicnocbkaa", sum := "531d4f0bd1fec044e320ff456aef3f336d4342c9da877489d2d92f611e524073", func := "lingua/lingualaw09.RateBounds", spec := "rateBounds", apart := false }
def RateBoundsSaid : Prop := rateBoundsRow.holds Try.pinned (OpenSpec.ofChange rateBoundsSpec)

/-- ITS FALSE NEIGHBOUR: 'it returns false'. Refute it at one input. -/
def rateBoundsWrong : ChangeSpec := { name := "rateBounds", fn := fun _ => fun
  | [d1, d2, d3, d4] => { results := [.lit (.bool false)], args := [d1, d2, d3, d4] }
  | _ => none }
def RateBoundsWrongFalsely : Prop := rateBoundsRow.holds Try.pinned (OpenSpec.ofChange rateBoundsWrong)

/-- 'lingualaw09.RateParts': WHATEVER THE INPUT: true; the input reads as it did. -/
def ratePartsSpec : ChangeSpec := { name := "rateParts", fn := fun _ => fun
  | [d1, d2, d3, d4, d5, d6, d7] => { results := [.lit (.bool true)], args := [d1, d2, d3, d4, d5, d6, d7] }
  | _ => none }
def ratePartsRow : OpenClaim := { program := "ytpdemlicnocbkaa", sum := "531d4f0bd1fec044e320ff456aef3f336d4342c9da877489d2d92f611e524073", func := "lingua/lingualaw09.RateParts", spec := "rateParts", apart := false }
def RatePartsSaid : Prop := ratePartsRow.holds Try.pinned (OpenSpec.ofChange ratePartsSpec)

/-- ITS FALSE NEIGHBOUR: 'it returns false'. Refute it at one input. -/
def ratePartsWrong : ChangeSpec := { name := "rateParts", fn := fun _ => fun
  | [d1, d2, d3, d4, d5, d6, d7] => { results := [.lit (.bool false)], args := [d1, d2, d3, d4, d5, d6, d7] }
  | _ => none }
def RatePartsWrongFalsely : Prop := ratePartsRow.holds Try.pinned (OpenSpec.ofChange ratePartsWrong)

/-- 'lingualaw09.RateNext': WHATEVER THE INPUT: true; the input reads as it did. -/
def rateNextSpec : ChangeSpec := { name := "rateNext", fn := fun _ => fun
  | [d1, d2, d3, d4, d5, d6] => { results := [.lit (.bool true)], args := [d1, d2, d3, d4, d5, d6] }
  | _ => none }
def rateNextRow : OpenClaim := { program := "ytpdemlicnocbkaa", sum := "531d4f0bd1fec044e320ff456aef3f336d4342c9da877489d2d92f611e524073", func := "lingua/lingualaw09.RateNext", spec := "rateNext", apart := false }
def RateNextSaid : Prop := rateNextRow.holds Try.pinned (OpenSpec.ofChange rateNextSpec)

/-- ITS FALSE NEIGHBOUR: 'it returns false'. Refute it at one input. -/
def rateNextWrong : ChangeSpec := { name := "rateNext", fn := fun _ => fun
  | [d1, d2, d3, d4, d5, d6] => { results := [.lit (.bool false)], args := [d1, d2, d3, d4, d5, d6] }
  | _ => none }
def RateNextWrongFalsely : Prop := rateNextRow.holds Try.pinned (OpenSpec.ofChange rateNextWrong)

/- THE SECOND FORM. 'bulk': how many values and letters a reading holds, each counted each time it is reached (what is shared counts as often as it is met; a slice's spare places count too). A statement '..UptoSaid' is the law's where the arguments, and the package variables that the reading takes, are together of bulk at most 1048576: NARROWER than '..Said'. Prove '..Said' where nothing that the law and all that it calls make is longer than what came in: it says more and counts as full. Else prove '..UptoSaid'. A law counts once. -/
mutual
def uptoBulk {H : Type} : DataW H → Nat
  | .lit (.string bytes) => bytes.length + 1
  | .lit _ => 1
  | .nil => 1
  | .ptr d => uptoBulk d + 1
  | .slice elems spare => uptoBulkAll elems + uptoBulkAll spare + 1
  | .agg parts => uptoBulkAll parts + 1
  | .iface _ d => uptoBulk d + 1
  | .map entries => uptoBulkEntries entries + 1
  | .held _ => 1
def uptoBulkAll {H : Type} : List (DataW H) → Nat
  | [] => 0
  | d :: r => uptoBulk d + uptoBulkAll r
def uptoBulkEntries {H : Type} : List (Lit × DataW H) → Nat
  | [] => 0
  | x :: r => uptoBulkEntry x + uptoBulkEntries r
def uptoBulkEntry {H : Type} : Lit × DataW H → Nat
  | (.string bytes, d) => bytes.length + uptoBulk d + 1
  | (_, d) => uptoBulk d + 1
 end
def uptoSmall : (H : Type) → List (DataW H) → Bool := fun _ ds => decide (uptoBulkAll ds ≤ 1048576)
def OpenSpec.upto (s : _root_.Go.ChangeSpec) : _root_.Go.OpenSpec := { _root_.Go.OpenSpec.ofChange s with cond := some uptoSmall }

/-- 'lingualaw09.RateTells', WHERE WHAT IT READS IS OF BULK AT MOST 1048576: true; the input reads as it did. -/
def rateTellsUptoRow : OpenClaim := { program := "ytpdemlicnocbkaa", sum := "531d4f0bd1fec044e320ff456aef3f336d4342c9da877489d2d92f611e524073", func := "lingua/lingualaw09.RateTells", spec := "rateTells", apart := false, narrowed := true }
def RateTellsUptoSaid : Prop := rateTellsUptoRow.holds Try.pinned (OpenSpec.upto rateTellsSpec)

/-- 'lingualaw09.RateBounds', WHERE WHAT IT READS IS OF BULK AT MOST 1048576: true; the input reads as it did. -/
def rateBoundsUptoRow : OpenClaim := { program := "ytpdemlicnocbkaa", sum := "531d4f0bd1fec044e320ff456aef3f336d4342c9da877489d2d92f611e524073", func := "lingua/lingualaw09.RateBounds", spec := "rateBounds", apart := false, narrowed := true }
def RateBoundsUptoSaid : Prop := rateBoundsUptoRow.holds Try.pinned (OpenSpec.upto rateBoundsSpec)

/-- 'lingualaw09.RateParts', WHERE WHAT IT READS IS OF BULK AT MOST 1048576: true; the input reads as it did. -/
def ratePartsUptoRow : OpenClaim := { program := "ytpdemlicnocbkaa", sum := "531d4f0bd1fec044e320ff456aef3f336d4342c9da877489d2d92f611e524073", func := "lingua/lingualaw09.RateParts", spec := "rateParts", apart := false, narrowed := true }
def RatePartsUptoSaid : Prop := ratePartsUptoRow.holds Try.pinned (OpenSpec.upto ratePartsSpec)

/-- 'lingualaw09.RateNext', WHERE WHAT IT READS IS OF BULK AT MOST 1048576: true; the input reads as it did. -/
def rateNextUptoRow : OpenClaim := { program := "ytpdemlicnocbkaa", sum := "531d4f0bd1fec044e320ff456aef3f336d4342c9da877489d2d92f611e524073", func := "lingua/lingualaw09.RateNext", spec := "rateNext", apart := false, narrowed := true }
def RateNextUptoSaid : Prop := rateNextUptoRow.holds Try.pinned (OpenSpec.upto rateNextSpec)

end Rows
end Go.Proofs.Ytpdemlicnocbkaa
