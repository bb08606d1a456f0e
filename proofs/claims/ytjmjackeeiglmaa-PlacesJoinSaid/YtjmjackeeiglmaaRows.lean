/-
  No cell of these rows narrows 'for every input' (looked for: loops, veiled, ifaces, maps, wideKeys, modest, calm, conditions, laid).
  DERIVED. THE GIVEN ROWS OF THIS SEAT. 5 by the template 'for every input the law returns true; each argument reads behind the call as it read before'; 0 by the template 'total and deterministic' (their statements: YtjmjackeeiglmaaTotals.lean).
  GIVEN WITH THE SEED: the statements are not yours to turn. If you find one false, say at which input.
  Laid BY PROGRAM, IN A SANDBOX (cutbox-rows.mjs): the forced cells as the released guide's own fill.sh prints them over the translation bd482e61a0c1ef58… (all of the seat's roots in one cut). By AI agents, Wed Nov 11 2026. No macro, syntax, notation, axiom, sorry.
-/
import Derived.Test.YtjmjackeeiglmaaChecked
import GoSem.Claim
import GoSem.ClaimJoined
import GoSem.ClaimMapViews
import Derived.JoinedTies
import Derived.KernelRfl
namespace Go.Proofs.Ytjmjackeeiglmaa
/- THE CELL 'sum', in the pinned program and in every row, IS THE sha256 OF THE DUMP (.gsa) THAT YtjmjackeeiglmaaProg.lean LOADS. Nothing in Lean hashes anything: it is a label: what it is worth is what the hold of that sum in a sandbox is worth. -/
noncomputable def Try.pinned : Pinned := { name := "ytjmjackeeiglmaa", sum := "bd482e61a0c1ef5893daa950e331a6679cbc510a98b9353d74ea472ac8a10015", checked := Try.checked }
namespace Rows
def none {H : Type} : Left H := { results := [], args := [] }

/-- 'lingualaw41.PlacesTells': WHATEVER THE INPUT: true; the input reads as it did. -/
def placesTellsSpec : ChangeSpec := { name := "placesTells", fn := fun _ => fun
  | [d1, d2] => { results := [.lit (.bool true)], args := [d1, d2] }
  | _ => none }
def placesTellsRow : OpenClaim := { program := "ytjmjackeeiglmaa", sum := "bd482e61a0c1ef5893daa950e331a6679cbc510a98b9353d74ea472ac8a10015", func := "lingua/lingualaw41.PlacesTells", spec := "placesTells", apart := false }
def PlacesTellsSaid : Prop := placesTellsRow.holds Try.pinned (OpenSpec.ofChange placesTellsSpec)

/-- ITS FALSE NEIGHBOUR: 'it returns false'. Refute it at one input. -/
def placesTellsWrong : ChangeSpec := { name := "placesTells", fn := fun _ => fun
  | [d1, d2] => { results := [.lit (.bool false)], args := [d1, d2] }
  | _ => none }
def PlacesTellsWrongFalsely : Prop := placesTellsRow.holds Try.pinned (OpenSpec.ofChange placesTellsWrong)

/-- 'lingualaw41.PlacesReach': WHATEVER THE INPUT: true; the input reads as it did. -/
def placesReachSpec : ChangeSpec := { name := "placesReach", fn := fun _ => fun
  | [d1, d2, d3] => { results := [.lit (.bool true)], args := [d1, d2, d3] }
  | _ => none }
def placesReachRow : OpenClaim := { program := "ytjmjackeeiglmaa", sum := "bd482e61a0c1ef5893daa950e331a6679cbc510a98b9353d74ea472ac8a10015", func := "lingua/lingualaw41.PlacesReach", spec := "placesReach", apart := false }
def PlacesReachSaid : Prop := placesReachRow.holds Try.pinned (OpenSpec.ofChange placesReachSpec)

/-- ITS FALSE NEIGHBOUR: 'it returns false'. Refute it at one input. -/
def placesReachWrong : ChangeSpec := { name := "placesReach", fn := fun _ => fun
  | [d1, d2, d3] => { results := [.lit (.bool false)], args := [d1, d2, d3] }
  | _ => none }
def PlacesReachWrongFalsely : Prop := placesReachRow.holds Try.pinned (OpenSpec.ofChange placesReachWrong)

/-- 'lingualaw41.PlacesOrder': WHATEVER THE INPUT: true; the input reads as it did. -/
def placesOrderSpec : ChangeSpec := { name := "placesOrder", fn := fun _ => fun
  | [d1, d2, d3] => { results := [.lit (.bool true)], args := [d1, d2, d3] }
  | _ => none }
def placesOrderRow : OpenClaim := { program := "ytjmjackeeiglmaa", sum := "bd482e61a0c1ef5893daa950e331a6679cbc510a98b9353d74ea472ac8a10015", func := "lingua/lingualaw41.PlacesOrder", spec := "placesOrder", apart := false }
def PlacesOrderSaid : Prop := placesOrderRow.holds Try.pinned (OpenSpec.ofChange placesOrderSpec)

/-- ITS FALSE NEIGHBOUR: 'it returns false'. Refute it at one input. -/
def placesOrderWrong : ChangeSpec := { name := "placesOrder", fn := fun _ => fun
  | [d1, d2, d3] => { results := [.lit (.bool false)], args := [d1, d2, d3] }
  | _ => none }
def PlacesOrderWrongFalsely : Prop := placesOrderRow.holds Try.pinned (OpenSpec.ofChange placesOrderWrong)

/-- 'lingualaw41.PlacesJoin': WHATEVER THE INPUT: true; the input reads as it did. -/
def placesJoinSpec : ChangeSpec := { name := "placesJoin", fn := fun _ => fun
  | [d1, d2, d3] => { results := [.lit (.bool true)], args := [d1, d2, d3] }
  | _ => none }
def placesJoinRow : OpenClaim := { program := "ytjmjackeeiglmaa", sum := "bd482e61a0c1ef5893daa950e331a6679cbc510a98b9353d74ea472ac8a10015", func := "lingua/lingualaw41.PlacesJoin", spec := "placesJoin", apart := false }
def PlacesJoinSaid : Prop := placesJoinRow.holds Try.pinned (OpenSpec.ofChange placesJoinSpec)

/-- ITS FALSE NEIGHBOUR: 'it returns false'. Refute it at one input. -/
def placesJoinWrong : ChangeSpec := { name := "placesJoin", fn := fun _ => fun
  | [d1, d2, d3] => { results := [.lit (.bool false)], args := [d1, d2, d3] }
  | _ => none }
def PlacesJoinWrongFalsely : Prop := placesJoinRow.holds Try.pinned (OpenSpec.ofChange placesJoinWrong)

/-- 'lingualaw41.PlacesAdds': WHATEVER THE INPUT: true; the input reads as it did. -/
def placesAddsSpec : ChangeSpec := { name := "placesAdds", fn := fun _ => fun
  | [d1, d2, d3] => { results := [.lit (.bool true)], args := [d1, d2, d3] }
  | _ => none }
def placesAddsRow : OpenClaim := { program := "ytjmjackeeiglmaa", sum := "bd482e61a0c1ef5893daa950e331a6679cbc510a98b9353d74ea472ac8a10015", func := "lingua/lingualaw41.PlacesAdds", spec := "placesAdds", apart := false }
def PlacesAddsSaid : Prop := placesAddsRow.holds Try.pinned (OpenSpec.ofChange placesAddsSpec)

/-- ITS FALSE NEIGHBOUR: 'it returns false'. Refute it at one input. -/
def placesAddsWrong : ChangeSpec := { name := "placesAdds", fn := fun _ => fun
  | [d1, d2, d3] => { results := [.lit (.bool false)], args := [d1, d2, d3] }
  | _ => none }
def PlacesAddsWrongFalsely : Prop := placesAddsRow.holds Try.pinned (OpenSpec.ofChange placesAddsWrong)

/- THE SECOND FORM. 'bulk': how many values and letters a reading holds, each counted each time it is reached (what is shared counts as often as it is met; a slice's spare places count too). A statement '..UptoSaid' is the law's where the arguments, and the package variables that the reading takes, are together of bulk at most 1048576: NARROWER than '..Said'. Prove '..Said' where nothing that the law and all that it calls make is longer than what came in: it says more and counts as full. Else prove '..UptoSaid'. A law counts once. -/
mutual
def uptoBulk {H : Type} : DataW H → Nat
  | .lit (.string bytes) => bytes.length + 1
  | .lit _ => 1
  | .nil => 1
  | .ptr d => uptoBulk d + 1
  | .slice elems spare => uptoBulkAll elems + uptoBulkAll spare + 1
  | .agg parts => uptoBulkAll parts + 1
  | .iface _ d => uptoBulk d + 1
  | .map entries => uptoBulkEntries entries + 1
  | .held _ => 1
def uptoBulkAll {H : Type} : List (DataW H) → Nat
  | [] => 0
  | d :: r => uptoBulk d + uptoBulkAll r
def uptoBulkEntries {H : Type} : List (Lit × DataW H) → Nat
  | [] => 0
  | x :: r => uptoBulkEntry x + uptoBulkEntries r
def uptoBulkEntry {H : Type} : Lit × DataW H → Nat
  | (.string bytes, d) => bytes.length + uptoBulk d + 1
  | (_, d) => uptoBulk d + 1
 end
def uptoSmall : (H : Type) → List (DataW H) → Bool := fun _ ds => decide (uptoBulkAll ds ≤ 1048576)
def OpenSpec.upto (s : _root_.Go.ChangeSpec) : _root_.Go.OpenSpec := { _root_.Go.OpenSpec.ofChange s with cond := some uptoSmall }

/-- 'lingualaw41.PlacesTells', WHERE WHAT IT READS IS OF BULK AT MOST 1048576: true; the input reads as it did. -/
def placesTellsUptoRow : OpenClaim := { program := "ytjmjackeeiglmaa", sum := "bd482e61a0c1ef5893daa950e331a6679cbc510a98b9353d74ea472ac8a10015", func := "lingua/lingualaw41.PlacesTells", spec := "placesTells", apart := false, narrowed := true }
def PlacesTellsUptoSaid : Prop := placesTellsUptoRow.holds Try.pinned (OpenSpec.upto placesTellsSpec)

/-- 'lingualaw41.PlacesReach', WHERE WHAT IT READS IS OF BULK AT MOST 1048576: true; the input reads as it did. -/
def placesReachUptoRow : OpenClaim := { program := "ytjmjackeeiglmaa", sum := "bd482e61a0c1ef5893daa950e331a6679cbc510a98b9353d74ea472ac8a10015", func := "lingua/lingualaw41.PlacesReach", spec := "placesReach", apart := false, narrowed := true }
def PlacesReachUptoSaid : Prop := placesReachUptoRow.holds Try.pinned (OpenSpec.upto placesReachSpec)

/-- 'lingualaw41.PlacesOrder', WHERE WHAT IT READS IS OF BULK AT MOST 1048576: true; the input reads as it did. -/
def placesOrderUptoRow : OpenClaim := { program := "ytjmjackeeiglmaa", sum := "bd482e61a0c1ef5893daa950e331a6679cbc510a98b9353d74ea472ac8a10015", func := "lingua/lingualaw41.PlacesOrder", spec := "placesOrder", apart := false, narrowed := true }
def PlacesOrderUptoSaid : Prop := placesOrderUptoRow.holds Try.pinned (OpenSpec.upto placesOrderSpec)

/-- 'lingualaw41.PlacesJoin', WHERE WHAT IT READS IS OF BULK AT MOST 1048576: true; the input reads as it did. -/
def placesJoinUptoRow : OpenClaim := { program := "ytjmjackeeiglmaa", sum := "bd482e61a0c1ef5893daa950e331a6679cbc510a98b9353d74ea472ac8a10015", func := "lingua/lingualaw41.PlacesJoin", spec := "placesJoin", apart := false, narrowed := true }
def PlacesJoinUptoSaid : Prop := placesJoinUptoRow.holds Try.pinned (OpenSpec.upto placesJoinSpec)

/-- 'lingualaw41.PlacesAdds', WHERE WHAT IT READS IS OF BULK AT MOST 1048576: true; the input reads as it did. -/
def placesAddsUptoRow : OpenClaim := { program := "ytjmjackeeiglmaa", sum := "bd482e61a0c1ef5893daa950e331a6679cbc510a98b9353d74ea472ac8a10015", func := "lingua/lingualaw41.PlacesAdds", spec := "placesAdds", apart := false, narrowed := true }
def PlacesAddsUptoSaid : Prop := placesAddsUptoRow.holds Try.pinned (OpenSpec.upto placesAddsSpec)

end Rows
end Go.Proofs.Ytjmjackeeiglmaa
