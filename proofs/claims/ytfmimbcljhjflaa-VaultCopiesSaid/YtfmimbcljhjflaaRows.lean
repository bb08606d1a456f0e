/-
  No cell of these rows narrows 'for every input' (looked for: loops, veiled, ifaces, maps, wideKeys, modest, calm, conditions, laid).
  DERIVED. THE GIVEN ROWS OF THIS SEAT. 4 by the template 'for every input the law returns true; each argument reads behind the call as it read before'; 0 by the template 'total and deterministic' (their statements: YtfmimbcljhjflaaTotals.lean).
  GIVEN WITH THE SEED: the statements are not yours to turn. If you find one false, say at which input.
  Laid BY PROGRAM, IN A SANDBOX (cutbox-rows.mjs): the forced cells as the released guide's own fill.sh prints them over the translation 31482bf466c0d7ec… (all of the seat's roots in one cut). By AI agents, Wed Nov 11 2026. No macro, syntax, notation, axiom, sorry.
-/
import Derived.Test.YtfmimbcljhjflaaChecked
import GoSem.Claim
import GoSem.ClaimJoined
import GoSem.ClaimMapViews
import Derived.JoinedTies
import Derived.KernelRfl
namespace Go.Proofs.Ytfmimbcljhjflaa
/- THE CELL 'sum', in the pinned program and in every row, IS THE sha256 OF THE DUMP (.gsa) THAT YtfmimbcljhjflaaProg.lean LOADS. Nothing in Lean hashes anything: it is a label: what it is worth is what the hold of that sum in a sandbox is worth. -/
noncomputable def Try.pinned : Pinned := { name := "ytfmimbcljhjflaa", sum := "31482bf466c0d7ec6db46e21924f0c653ea43fe0184f516b242e60069b003c46", checked := Try.checked }
namespace Rows
def none {H : Type} : Left H := { results := [], args := [] }

/-- 'lingualaw05.VaultTells': WHATEVER THE INPUT: true; the input reads as it did. -/
def vaultTellsSpec : ChangeSpec := { name := "vaultTells", fn := fun _ => fun
  | [d] => { results := [.lit (.bool true)], args := [d] }
  | _ => none }
def vaultTellsRow : OpenClaim := { program := "ytfmimbcljhjflaa", sum := "31482bf466c0d7ec6db46e21924f0c653ea43fe0184f516b242e60069b003c46", func := "lingua/lingualaw05.VaultTells", spec := "vaultTells", apart := false }
def VaultTellsSaid : Prop := vaultTellsRow.holds Try.pinned (OpenSpec.ofChange vaultTellsSpec)

/-- ITS FALSE NEIGHBOUR: 'it returns false'. Refute it at one input. -/
def vaultTellsWrong : ChangeSpec := { name := "vaultTells", fn := fun _ => fun
  | [d] => { results := [.lit (.bool false)], args := [d] }
  | _ => none }
def VaultTellsWrongFalsely : Prop := vaultTellsRow.holds Try.pinned (OpenSpec.ofChange vaultTellsWrong)

/-- 'lingualaw05.VaultSecret': WHATEVER THE INPUT: true; the input reads as it did. -/
def vaultSecretSpec : ChangeSpec := { name := "vaultSecret", fn := fun _ => fun
  | [d1, d2] => { results := [.lit (.bool true)], args := [d1, d2] }
  | _ => none }
def vaultSecretRow : OpenClaim := { program := "ytfmimbcljhjflaa", sum := "31482bf466c0d7ec6db46e21924f0c653ea43fe0184f516b242e60069b003c46", func := "lingua/lingualaw05.VaultSecret", spec := "vaultSecret", apart := false }
def VaultSecretSaid : Prop := vaultSecretRow.holds Try.pinned (OpenSpec.ofChange vaultSecretSpec)

/-- ITS FALSE NEIGHBOUR: 'it returns false'. Refute it at one input. -/
def vaultSecretWrong : ChangeSpec := { name := "vaultSecret", fn := fun _ => fun
  | [d1, d2] => { results := [.lit (.bool false)], args := [d1, d2] }
  | _ => none }
def VaultSecretWrongFalsely : Prop := vaultSecretRow.holds Try.pinned (OpenSpec.ofChange vaultSecretWrong)

/-- 'lingualaw05.VaultOpens': WHATEVER THE INPUT: true; the input reads as it did. -/
def vaultOpensSpec : ChangeSpec := { name := "vaultOpens", fn := fun _ => fun
  | [d] => { results := [.lit (.bool true)], args := [d] }
  | _ => none }
def vaultOpensRow : OpenClaim := { program := "ytfmimbcljhjflaa", sum := "31482bf466c0d7ec6db46e21924f0c653ea43fe0184f516b242e60069b003c46", func := "lingua/lingualaw05.VaultOpens", spec := "vaultOpens", apart := false }
def VaultOpensSaid : Prop := vaultOpensRow.holds Try.pinned (OpenSpec.ofChange vaultOpensSpec)

/-- ITS FALSE NEIGHBOUR: 'it returns false'. Refute it at one input. -/
def vaultOpensWrong : ChangeSpec := { name := "vaultOpens", fn := fun _ => fun
  | [d] => { results := [.lit (.bool false)], args := [d] }
  | _ => none }
def VaultOpensWrongFalsely : Prop := vaultOpensRow.holds Try.pinned (OpenSpec.ofChange vaultOpensWrong)

/-- 'lingualaw05.VaultCopies': WHATEVER THE INPUT: true; the input reads as it did. -/
def vaultCopiesSpec : ChangeSpec := { name := "vaultCopies", fn := fun _ => fun
  | [d1, d2] => { results := [.lit (.bool true)], args := [d1, d2] }
  | _ => none }
def vaultCopiesRow : OpenClaim := { program := "ytfmimbcljhjflaa", sum := "31482bf466c0d7ec6db46e21924f0c653ea43fe0184f516b242e60069b003c46", func := "lingua/lingualaw05.VaultCopies", spec := "vaultCopies", apart := false }
def VaultCopiesSaid : Prop := vaultCopiesRow.holds Try.pinned (OpenSpec.ofChange vaultCopiesSpec)

/-- ITS FALSE NEIGHBOUR: 'it returns false'. Refute it at one input. -/
def vaultCopiesWrong : ChangeSpec := { name := "vaultCopies", fn := fun _ => fun
  | [d1, d2] => { results := [.lit (.bool false)], args := [d1, d2] }
  | _ => none }
def VaultCopiesWrongFalsely : Prop := vaultCopiesRow.holds Try.pinned (OpenSpec.ofChange vaultCopiesWrong)

/- THE SECOND FORM. 'bulk': how many values and letters a reading holds, each counted each time it is reached (what is shared counts as often as it is met; a slice's spare places count too). A statement '..UptoSaid' is the law's where the arguments, and the package variables that the reading takes, are together of bulk at most 1048576: NARROWER than '..Said'. Prove '..Said' where nothing that the law and all that it calls make is longer than what came in: it says more and counts as full. Else prove '..UptoSaid'. A law counts once. -/
mutual
def uptoBulk {H : Type} : DataW H → Nat
  | .lit (.string bytes) => bytes.length + 1
  | .lit _ => 1
  | .nil => 1
  | .ptr d => uptoBulk d + 1
  | .slice elems spare => uptoBulkAll elems + uptoBulkAll spare + 1
  | .agg parts => uptoBulkAll parts + 1
  | .iface _ d => uptoBulk d + 1
  | .map entries => uptoBulkEntries entries + 1
  | .held _ => 1
def uptoBulkAll {H : Type} : List (DataW H) → Nat
  | [] => 0
  | d :: r => uptoBulk d + uptoBulkAll r
def uptoBulkEntries {H : Type} : List (Lit × DataW H) → Nat
  | [] => 0
  | x :: r => uptoBulkEntry x + uptoBulkEntries r
def uptoBulkEntry {H : Type} : Lit × DataW H → Nat
  | (.string bytes, d) => bytes.length + uptoBulk d + 1
  | (_, d) => uptoBulk d + 1
 end
def uptoSmall : (H : Type) → List (DataW H) → Bool := fun _ ds => decide (uptoBulkAll ds ≤ 1048576)
def OpenSpec.upto (s : _root_.Go.ChangeSpec) : _root_.Go.OpenSpec := { _root_.Go.OpenSpec.ofChange s with cond := some uptoSmall }

/-- 'lingualaw05.VaultTells', WHERE WHAT IT READS IS OF BULK AT MOST 1048576: true; the input reads as it did. -/
def vaultTellsUptoRow : OpenClaim := { program := "ytfmimbcljhjflaa", sum := "31482bf466c0d7ec6db46e21924f0c653ea43fe0184f516b242e60069b003c46", func := "lingua/lingualaw05.VaultTells", spec := "vaultTells", apart := false, narrowed := true }
def VaultTellsUptoSaid : Prop := vaultTellsUptoRow.holds Try.pinned (OpenSpec.upto vaultTellsSpec)

/-- 'lingualaw05.VaultSecret', WHERE WHAT IT READS IS OF BULK AT MOST 1048576: true; the input reads as it did. -/
def vaultSecretUptoRow : OpenClaim := { program := "ytfmimbcljhjflaa", sum := "31482bf466c0d7ec6db46e21924f0c653ea43fe0184f516b242e60069b003c46", func := "lingua/lingualaw05.VaultSecret", spec := "vaultSecret", apart := false, narrowed := true }
def VaultSecretUptoSaid : Prop := vaultSecretUptoRow.holds Try.pinned (OpenSpec.upto vaultSecretSpec)

/-- 'lingualaw05.VaultOpens', WHERE WHAT IT READS IS OF BULK AT MOST 1048576: true; the input reads as it did. -/
def vaultOpensUptoRow : OpenClaim := { program := "ytfmimbcljhjflaa", sum := "31482bf466c0d7ec6db46e21924f0c653ea43fe0184f516b242e60069b003c46", func := "lingua/lingualaw05.VaultOpens", spec := "vaultOpens", apart := false, narrowed := true }
def VaultOpensUptoSaid : Prop := vaultOpensUptoRow.holds Try.pinned (OpenSpec.upto vaultOpensSpec)

/-- 'lingualaw05.VaultCopies', WHERE WHAT IT READS IS OF BULK AT MOST 1048576: true; the input reads as it did. -/
def vaultCopiesUptoRow : OpenClaim := { program := "ytfmimbcljhjflaa", sum := "31482bf466c0d7ec6db46e21924f0c653ea43fe0184f516b242e60069b003c46", func := "lingua/lingualaw05.VaultCopies", spec := "vaultCopies", apart := false, narrowed := true }
def VaultCopiesUptoSaid : Prop := vaultCopiesUptoRow.holds Try.pinned (OpenSpec.upto vaultCopiesSpec)

end Rows
end Go.Proofs.Ytfmimbcljhjflaa
