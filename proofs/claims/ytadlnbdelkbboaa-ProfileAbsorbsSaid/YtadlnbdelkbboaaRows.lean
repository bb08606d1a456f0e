/-
  No cell of these rows narrows 'for every input' (looked for: loops, veiled, ifaces, maps, wideKeys, modest, calm, conditions, laid).
  DERIVED. THE GIVEN ROWS OF THIS SEAT. 5 by the template 'for every input the law returns true; each argument reads behind the call as it read before'; 0 by the template 'total and deterministic' (their statements: YtadlnbdelkbboaaTotals.lean).
  GIVEN WITH THE SEED: the statements are not yours to turn. If you find one false, say at which input.
  Laid BY PROGRAM, IN A SANDBOX (cutbox-rows.mjs): the forced cells as the released guide's own fill.sh prints them over the translation 04bf61602bb21c52… (all of the seat's roots in one cut). By AI agents, Wed Nov 11 2026. No macro, syntax, notation, axiom, sorry.
-/
import Derived.Test.YtadlnbdelkbboaaChecked
import GoSem.Claim
import GoSem.ClaimJoined
import GoSem.ClaimMapViews
import Derived.JoinedTies
import Derived.KernelRfl
namespace Go.Proofs.Ytadlnbdelkbboaa
/- THE CELL 'sum', in the pinned program and in every row, IS THE sha256 OF THE DUMP (.gsa) THAT YtadlnbdelkbboaaProg.lean LOADS. Nothing in Lean hashes anything: it is a label: what it is worth is what the hold of that sum in a sandbox is worth. -/
noncomputable def Try.pinned : Pinned := { name := "ytadlnbdelkbboaa", sum := "04bf61602bb21c52b8e6af418d173ffb6cc3c3f427b0a391a0dc744525399119", checked := Try.checked }
namespace Rows
def none {H : Type} : Left H := { results := [], args := [] }

/-- 'lingualaw13.ProfileTells': WHATEVER THE INPUT: true; the input reads as it did. -/
def profileTellsSpec : ChangeSpec := { name := "profileTells", fn := fun _ => fun
  | [d1, d2] => { results := [.lit (.bool true)], args := [d1, d2] }
  | _ => none }
def profileTellsRow : OpenClaim := { program := "ytadlnbdelkbboaa", sum := "04bf61602bb21c52b8e6af418d173ffb6cc3c3f427b0a391a0dc744525399119", func := "lingua/lingualaw13.ProfileTells", spec := "profileTells", unfollowed := true, recurses := true, apart := false }
def ProfileTellsSaid : Prop := profileTellsRow.holds Try.pinned (OpenSpec.ofChange profileTellsSpec)

/-- ITS FALSE NEIGHBOUR: 'it returns false'. Refute it at one input. -/
def profileTellsWrong : ChangeSpec := { name := "profileTells", fn := fun _ => fun
  | [d1, d2] => { results := [.lit (.bool false)], args := [d1, d2] }
  | _ => none }
def ProfileTellsWrongFalsely : Prop := profileTellsRow.holds Try.pinned (OpenSpec.ofChange profileTellsWrong)

/-- 'lingualaw13.ProfileBounds': WHATEVER THE INPUT: true; the input reads as it did. -/
def profileBoundsSpec : ChangeSpec := { name := "profileBounds", fn := fun _ => fun
  | [d1, d2, d3] => { results := [.lit (.bool true)], args := [d1, d2, d3] }
  | _ => none }
def profileBoundsRow : OpenClaim := { program := "ytadlnbdelkbboaa", sum := "04bf61602bb21c52b8e6af418d173ffb6cc3c3f427b0a391a0dc744525399119", func := "lingua/lingualaw13.ProfileBounds", spec := "profileBounds", unfollowed := true, recurses := true, apart := false }
def ProfileBoundsSaid : Prop := profileBoundsRow.holds Try.pinned (OpenSpec.ofChange profileBoundsSpec)

/-- ITS FALSE NEIGHBOUR: 'it returns false'. Refute it at one input. -/
def profileBoundsWrong : ChangeSpec := { name := "profileBounds", fn := fun _ => fun
  | [d1, d2, d3] => { results := [.lit (.bool false)], args := [d1, d2, d3] }
  | _ => none }
def ProfileBoundsWrongFalsely : Prop := profileBoundsRow.holds Try.pinned (OpenSpec.ofChange profileBoundsWrong)

/-- 'lingualaw13.ProfileOrder': WHATEVER THE INPUT: true; the input reads as it did. -/
def profileOrderSpec : ChangeSpec := { name := "profileOrder", fn := fun _ => fun
  | [d1, d2, d3] => { results := [.lit (.bool true)], args := [d1, d2, d3] }
  | _ => none }
def profileOrderRow : OpenClaim := { program := "ytadlnbdelkbboaa", sum := "04bf61602bb21c52b8e6af418d173ffb6cc3c3f427b0a391a0dc744525399119", func := "lingua/lingualaw13.ProfileOrder", spec := "profileOrder", unfollowed := true, recurses := true, apart := false }
def ProfileOrderSaid : Prop := profileOrderRow.holds Try.pinned (OpenSpec.ofChange profileOrderSpec)

/-- ITS FALSE NEIGHBOUR: 'it returns false'. Refute it at one input. -/
def profileOrderWrong : ChangeSpec := { name := "profileOrder", fn := fun _ => fun
  | [d1, d2, d3] => { results := [.lit (.bool false)], args := [d1, d2, d3] }
  | _ => none }
def ProfileOrderWrongFalsely : Prop := profileOrderRow.holds Try.pinned (OpenSpec.ofChange profileOrderWrong)

/-- 'lingualaw13.ProfileKeeps': WHATEVER THE INPUT: true; the input reads as it did. -/
def profileKeepsSpec : ChangeSpec := { name := "profileKeeps", fn := fun _ => fun
  | [d1, d2] => { results := [.lit (.bool true)], args := [d1, d2] }
  | _ => none }
def profileKeepsRow : OpenClaim := { program := "ytadlnbdelkbboaa", sum := "04bf61602bb21c52b8e6af418d173ffb6cc3c3f427b0a391a0dc744525399119", func := "lingua/lingualaw13.ProfileKeeps", spec := "profileKeeps", unfollowed := true, recurses := true, apart := false }
def ProfileKeepsSaid : Prop := profileKeepsRow.holds Try.pinned (OpenSpec.ofChange profileKeepsSpec)

/-- ITS FALSE NEIGHBOUR: 'it returns false'. Refute it at one input. -/
def profileKeepsWrong : ChangeSpec := { name := "profileKeeps", fn := fun _ => fun
  | [d1, d2] => { results := [.lit (.bool false)], args := [d1, d2] }
  | _ => none }
def ProfileKeepsWrongFalsely : Prop := profileKeepsRow.holds Try.pinned (OpenSpec.ofChange profileKeepsWrong)

/-- 'lingualaw13.ProfileAbsorbs': WHATEVER THE INPUT: true; the input reads as it did. -/
def profileAbsorbsSpec : ChangeSpec := { name := "profileAbsorbs", fn := fun _ => fun
  | [d1, d2] => { results := [.lit (.bool true)], args := [d1, d2] }
  | _ => none }
def profileAbsorbsRow : OpenClaim := { program := "ytadlnbdelkbboaa", sum := "04bf61602bb21c52b8e6af418d173ffb6cc3c3f427b0a391a0dc744525399119", func := "lingua/lingualaw13.ProfileAbsorbs", spec := "profileAbsorbs", unfollowed := true, recurses := true, apart := false }
def ProfileAbsorbsSaid : Prop := profileAbsorbsRow.holds Try.pinned (OpenSpec.ofChange profileAbsorbsSpec)

/-- ITS FALSE NEIGHBOUR: 'it returns false'. Refute it at one input. -/
def profileAbsorbsWrong : ChangeSpec := { name := "profileAbsorbs", fn := fun _ => fun
  | [d1, d2] => { results := [.lit (.bool false)], args := [d1, d2] }
  | _ => none }
def ProfileAbsorbsWrongFalsely : Prop := profileAbsorbsRow.holds Try.pinned (OpenSpec.ofChange profileAbsorbsWrong)

/- THE SECOND FORM. 'bulk': how many values and letters a reading holds, each counted each time it is reached (what is shared counts as often as it is met; a slice's spare places count too). A statement '..UptoSaid' is the law's where the arguments, and the package variables that the reading takes, are together of bulk at most 1048576: NARROWER than '..Said'. Prove '..Said' where nothing that the law and all that it calls make is longer than what came in: it says more and counts as full. Else prove '..UptoSaid'. A law counts once. -/
mutual
def uptoBulk {H : Type} : DataW H → Nat
  | .lit (.string bytes) => bytes.length + 1
  | .lit _ => 1
  | .nil => 1
  | .ptr d => uptoBulk d + 1
  | .slice elems spare => uptoBulkAll elems + uptoBulkAll spare + 1
  | .agg parts => uptoBulkAll parts + 1
  | .iface _ d => uptoBulk d + 1
  | .map entries => uptoBulkEntries entries + 1
  | .held _ => 1
def uptoBulkAll {H : Type} : List (DataW H) → Nat
  | [] => 0
  | d :: r => uptoBulk d + uptoBulkAll r
def uptoBulkEntries {H : Type} : List (Lit × DataW H) → Nat
  | [] => 0
  | x :: r => uptoBulkEntry x + uptoBulkEntries r
def uptoBulkEntry {H : Type} : Lit × DataW H → Nat
  | (.string bytes, d) => bytes.length + uptoBulk d + 1
  | (_, d) => uptoBulk d + 1
 end
def uptoSmall : (H : Type) → List (DataW H) → Bool := fun _ ds => decide (uptoBulkAll ds ≤ 1048576)
def OpenSpec.upto (s : _root_.Go.ChangeSpec) : _root_.Go.OpenSpec := { _root_.Go.OpenSpec.ofChange s with cond := some uptoSmall }

/-- 'lingualaw13.ProfileTells', WHERE WHAT IT READS IS OF BULK AT MOST 1048576: true; the input reads as it did. -/
def profileTellsUptoRow : OpenClaim := { program := "ytadlnbdelkbboaa", sum := "04bf61602bb21c52b8e6af418d173ffb6cc3c3f427b0a391a0dc744525399119", func := "lingua/lingualaw13.ProfileTells", spec := "profileTells", unfollowed := true, recurses := true, apart := false, narrowed := true }
def ProfileTellsUptoSaid : Prop := profileTellsUptoRow.holds Try.pinned (OpenSpec.upto profileTellsSpec)

/-- 'lingualaw13.ProfileBounds', WHERE WHAT IT READS IS OF BULK AT MOST 1048576: true; the input reads as it did. -/
def profileBoundsUptoRow : OpenClaim := { program := "ytadlnbdelkbboaa", sum := "04bf61602bb21c52b8e6af418d173ffb6cc3c3f427b0a391a0dc744525399119", func := "lingua/lingualaw13.ProfileBounds", spec := "profileBounds", unfollowed := true, recurses := true, apart := false, narrowed := true }
def ProfileBoundsUptoSaid : Prop := profileBoundsUptoRow.holds Try.pinned (OpenSpec.upto profileBoundsSpec)

/-- 'lingualaw13.ProfileOrder', WHERE WHAT IT READS IS OF BULK AT MOST 1048576: true; the input reads as it did. -/
def profileOrderUptoRow : OpenClaim := { program := "ytadlnbdelkbboaa", sum := "04bf61602bb21c52b8e6af418d173ffb6cc3c3f427b0a391a0dc744525399119", func := "lingua/lingualaw13.ProfileOrder", spec := "profileOrder", unfollowed := true, recurses := true, apart := false, narrowed := true }
def ProfileOrderUptoSaid : Prop := profileOrderUptoRow.holds Try.pinned (OpenSpec.upto profileOrderSpec)

/-- 'lingualaw13.ProfileKeeps', WHERE WHAT IT READS IS OF BULK AT MOST 1048576: true; the input reads as it did. -/
def profileKeepsUptoRow : OpenClaim := { program := "ytadlnbdelkbboaa", sum := "04bf61602bb21c52b8e6af418d173ffb6cc3c3f427b0a391a0dc744525399119", func := "lingua/lingualaw13.ProfileKeeps", spec := "profileKeeps", unfollowed := true, recurses := true, apart := false, narrowed := true }
def ProfileKeepsUptoSaid : Prop := profileKeepsUptoRow.holds Try.pinned (OpenSpec.upto profileKeepsSpec)

/-- 'lingualaw13.ProfileAbsorbs', WHERE WHAT IT READS IS OF BULK AT MOST 1048576: true; the input reads as it did. -/
def profileAbsorbsUptoRow : OpenClaim := { program := "ytadlnbdelkbboaa", sum := "04bf61602bb21c52b8e6af418d173ffb6cc3c3f427b0a391a0dc744525399119", func := "lingua/lingualaw13.ProfileAbsorbs", spec := "profileAbsorbs", unfollowed := true, recurses := true, apart := false, narrowed := true }
def ProfileAbsorbsUptoSaid : Prop := profileAbsorbsUptoRow.holds Try.pinned (OpenSpec.upto profileAbsorbsSpec)

end Rows
end Go.Proofs.Ytadlnbdelkbboaa
