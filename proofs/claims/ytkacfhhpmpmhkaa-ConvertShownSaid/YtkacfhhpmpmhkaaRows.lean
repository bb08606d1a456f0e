/-
  No cell of these rows narrows 'for every input' (looked for: loops, veiled, ifaces, maps, wideKeys, modest, calm, conditions, laid).
  DERIVED. THE GIVEN ROWS OF THIS SEAT. 5 by the template 'for every input the law returns true; each argument reads behind the call as it read before'; 0 by the template 'total and deterministic' (their statements: YtkacfhhpmpmhkaaTotals.lean).
  GIVEN WITH THE SEED: the statements are not yours to turn. If you find one false, say at which input.
  Laid BY PROGRAM, IN A SANDBOX (cutbox-rows.mjs): the forced cells as the released guide's own fill.sh prints them over the translation 55e11db1a2a6e1b2… (all of the seat's roots in one cut). By AI agents, Wed Nov 11 2026. No macro, syntax, notation, axiom, sorry.
-/
import Derived.Test.YtkacfhhpmpmhkaaChecked
import GoSem.Claim
import GoSem.ClaimJoined
import GoSem.ClaimMapViews
import Derived.JoinedTies
import Derived.KernelRfl
namespace Go.Proofs.Ytkacfhhpmpmhkaa
/- THE CELL 'sum', in the pinned program and in every row, IS THE sha256 OF THE DUMP (.gsa) THAT YtkacfhhpmpmhkaaProg.lean LOADS. Nothing in Lean hashes anything: it is a label: what it is worth is what the hold of that sum in a sandbox is worth. -/
noncomputable def Try.pinned : Pinned := { name := "ytkacfhhpmpmhkaa", sum := "55e11db1a2a6e1b217fa2098b2d5dd50fe4e1625c364be12b6aa1ba9ef5e84dc", checked := Try.checked }
namespace Rows
def none {H : Type} : Left H := { results := [], args := [] }

/-- 'lingualaw39.ConvertBest': WHATEVER THE INPUT: true; the input reads as it did. -/
def convertBestSpec : ChangeSpec := { name := "convertBest", fn := fun _ => fun
  | [d1, d2, d3, d4, d5] => { results := [.lit (.bool true)], args := [d1, d2, d3, d4, d5] }
  | _ => none }
def convertBestRow : OpenClaim := { program := "ytkacfhhpmpmhkaa", sum := "55e11db1a2a6e1b217fa2098b2d5dd50fe4e1625c364be12b6aa1ba9ef5e84dc", func := "lingua/lingualaw39.ConvertBest", spec := "convertBest", apart := false }
def ConvertBestSaid : Prop := convertBestRow.holds Try.pinned (OpenSpec.ofChange convertBestSpec)

/-- ITS FALSE NEIGHBOUR: 'it returns false'. Refute it at one input. -/
def convertBestWrong : ChangeSpec := { name := "convertBest", fn := fun _ => fun
  | [d1, d2, d3, d4, d5] => { results := [.lit (.bool false)], args := [d1, d2, d3, d4, d5] }
  | _ => none }
def ConvertBestWrongFalsely : Prop := convertBestRow.holds Try.pinned (OpenSpec.ofChange convertBestWrong)

/-- 'lingualaw39.ConvertOnce': WHATEVER THE INPUT: true; the input reads as it did. -/
def convertOnceSpec : ChangeSpec := { name := "convertOnce", fn := fun _ => fun
  | [d1, d2, d3, d4] => { results := [.lit (.bool true)], args := [d1, d2, d3, d4] }
  | _ => none }
def convertOnceRow : OpenClaim := { program := "ytkacfhhpmpmhkaa", sum := "55e11db1a2a6e1b217fa2098b2d5dd50fe4e1625c364be12b6aa1ba9ef5e84dc", func := "lingua/lingualaw39.ConvertOnce", spec := "convertOnce", apart := false }
def ConvertOnceSaid : Prop := convertOnceRow.holds Try.pinned (OpenSpec.ofChange convertOnceSpec)

/-- ITS FALSE NEIGHBOUR: 'it returns false'. Refute it at one input. -/
def convertOnceWrong : ChangeSpec := { name := "convertOnce", fn := fun _ => fun
  | [d1, d2, d3, d4] => { results := [.lit (.bool false)], args := [d1, d2, d3, d4] }
  | _ => none }
def ConvertOnceWrongFalsely : Prop := convertOnceRow.holds Try.pinned (OpenSpec.ofChange convertOnceWrong)

/-- 'lingualaw39.ConvertMore': WHATEVER THE INPUT: true; the input reads as it did. -/
def convertMoreSpec : ChangeSpec := { name := "convertMore", fn := fun _ => fun
  | [d1, d2, d3, d4, d5, d6, d7] => { results := [.lit (.bool true)], args := [d1, d2, d3, d4, d5, d6, d7] }
  | _ => none }
def convertMoreRow : OpenClaim := { program := "ytkacfhhpmpmhkaa", sum := "55e11db1a2a6e1b217fa2098b2d5dd50fe4e1625c364be12b6aa1ba9ef5e84dc", func := "lingua/lingualaw39.ConvertMore", spec := "convertMore", apart := false }
def ConvertMoreSaid : Prop := convertMoreRow.holds Try.pinned (OpenSpec.ofChange convertMoreSpec)

/-- ITS FALSE NEIGHBOUR: 'it returns false'. Refute it at one input. -/
def convertMoreWrong : ChangeSpec := { name := "convertMore", fn := fun _ => fun
  | [d1, d2, d3, d4, d5, d6, d7] => { results := [.lit (.bool false)], args := [d1, d2, d3, d4, d5, d6, d7] }
  | _ => none }
def ConvertMoreWrongFalsely : Prop := convertMoreRow.holds Try.pinned (OpenSpec.ofChange convertMoreWrong)

/-- 'lingualaw39.ConvertTells': WHATEVER THE INPUT: true; the input reads as it did. -/
def convertTellsSpec : ChangeSpec := { name := "convertTells", fn := fun _ => fun
  | [d1, d2, d3, d4, d5] => { results := [.lit (.bool true)], args := [d1, d2, d3, d4, d5] }
  | _ => none }
def convertTellsRow : OpenClaim := { program := "ytkacfhhpmpmhkaa", sum := "55e11db1a2a6e1b217fa2098b2d5dd50fe4e1625c364be12b6aa1ba9ef5e84dc", func := "lingua/lingualaw39.ConvertTells", spec := "convertTells", apart := false }
def ConvertTellsSaid : Prop := convertTellsRow.holds Try.pinned (OpenSpec.ofChange convertTellsSpec)

/-- ITS FALSE NEIGHBOUR: 'it returns false'. Refute it at one input. -/
def convertTellsWrong : ChangeSpec := { name := "convertTells", fn := fun _ => fun
  | [d1, d2, d3, d4, d5] => { results := [.lit (.bool false)], args := [d1, d2, d3, d4, d5] }
  | _ => none }
def ConvertTellsWrongFalsely : Prop := convertTellsRow.holds Try.pinned (OpenSpec.ofChange convertTellsWrong)

/-- 'lingualaw39.ConvertShown': WHATEVER THE INPUT: true; the input reads as it did. -/
def convertShownSpec : ChangeSpec := { name := "convertShown", fn := fun _ => fun
  | [d1, d2, d3, d4, d5] => { results := [.lit (.bool true)], args := [d1, d2, d3, d4, d5] }
  | _ => none }
def convertShownRow : OpenClaim := { program := "ytkacfhhpmpmhkaa", sum := "55e11db1a2a6e1b217fa2098b2d5dd50fe4e1625c364be12b6aa1ba9ef5e84dc", func := "lingua/lingualaw39.ConvertShown", spec := "convertShown", unfollowed := true, recurses := true, apart := false }
def ConvertShownSaid : Prop := convertShownRow.holds Try.pinned (OpenSpec.ofChange convertShownSpec)

/-- ITS FALSE NEIGHBOUR: 'it returns false'. Refute it at one input. -/
def convertShownWrong : ChangeSpec := { name := "convertShown", fn := fun _ => fun
  | [d1, d2, d3, d4, d5] => { results := [.lit (.bool false)], args := [d1, d2, d3, d4, d5] }
  | _ => none }
def ConvertShownWrongFalsely : Prop := convertShownRow.holds Try.pinned (OpenSpec.ofChange convertShownWrong)

/- THE SECOND FORM. 'bulk': how many values and letters a reading holds, each counted each time it is reached (what is shared counts as often as it is met; a slice's spare places count too). A statement '..UptoSaid' is the law's where the arguments, and the package variables that the reading takes, are together of bulk at most 1048576: NARROWER than '..Said'. Prove '..Said' where nothing that the law and all that it calls make is longer than what came in: it says more and counts as full. Else prove '..UptoSaid'. A law counts once. -/
mutual
def uptoBulk {H : Type} : DataW H → Nat
  | .lit (.string bytes) => bytes.length + 1
  | .lit _ => 1
  | .nil => 1
  | .ptr d => uptoBulk d + 1
  | .slice elems spare => uptoBulkAll elems + uptoBulkAll spare + 1
  | .agg parts => uptoBulkAll parts + 1
  | .iface _ d => uptoBulk d + 1
  | .map entries => uptoBulkEntries entries + 1
  | .held _ => 1
def uptoBulkAll {H : Type} : List (DataW H) → Nat
  | [] => 0
  | d :: r => uptoBulk d + uptoBulkAll r
def uptoBulkEntries {H : Type} : List (Lit × DataW H) → Nat
  | [] => 0
  | x :: r => uptoBulkEntry x + uptoBulkEntries r
def uptoBulkEntry {H : Type} : Lit × DataW H → Nat
  | (.string bytes, d) => bytes.length + uptoBulk d + 1
  | (_, d) => uptoBulk d + 1
 end
def uptoSmall : (H : Type) → List (DataW H) → Bool := fun _ ds => decide (uptoBulkAll ds ≤ 1048576)
def OpenSpec.upto (s : _root_.Go.ChangeSpec) : _root_.Go.OpenSpec := { _root_.Go.OpenSpec.ofChange s with cond := some uptoSmall }

/-- 'lingualaw39.ConvertBest', WHERE WHAT IT READS IS OF BULK AT MOST 1048576: true; the input reads as it did. -/
def convertBestUptoRow : OpenClaim := { program := "ytkacfhhpmpmhkaa", sum := "55e11db1a2a6e1b217fa2098b2d5dd50fe4e1625c364be12b6aa1ba9ef5e84dc", func := "lingua/lingualaw39.ConvertBest", spec := "convertBest", apart := false, narrowed := true }
def ConvertBestUptoSaid : Prop := convertBestUptoRow.holds Try.pinned (OpenSpec.upto convertBestSpec)

/-- 'lingualaw39.ConvertOnce', WHERE WHAT IT READS IS OF BULK AT MOST 1048576: true; the input reads as it did. -/
def convertOnceUptoRow : OpenClaim := { program := "ytkacfhhpmpmhkaa", sum := "55e11db1a2a6e1b217fa2098b2d5dd50fe4e1625c364be12b6aa1ba9ef5e84dc", func := "lingua/lingualaw39.ConvertOnce", spec := "convertOnce", apart := false, narrowed := true }
def ConvertOnceUptoSaid : Prop := convertOnceUptoRow.holds Try.pinned (OpenSpec.upto convertOnceSpec)

/-- 'lingualaw39.ConvertMore', WHERE WHAT IT READS IS OF BULK AT MOST 1048576: true; the input reads as it did. -/
def convertMoreUptoRow : OpenClaim := { program := "ytkacfhhpmpmhkaa", sum := "55e11db1a2a6e1b217fa2098b2d5dd50fe4e1625c364be12b6aa1ba9ef5e84dc", func := "lingua/lingualaw39.ConvertMore", spec := "convertMore", apart := false, narrowed := true }
def ConvertMoreUptoSaid : Prop := convertMoreUptoRow.holds Try.pinned (OpenSpec.upto convertMoreSpec)

/-- 'lingualaw39.ConvertTells', WHERE WHAT IT READS IS OF BULK AT MOST 1048576: true; the input reads as it did. -/
def convertTellsUptoRow : OpenClaim := { program := "ytkacfhhpmpmhkaa", sum := "55e11db1a2a6e1b217fa2098b2d5dd50fe4e1625c364be12b6aa1ba9ef5e84dc", func := "lingua/lingualaw39.ConvertTells", spec := "convertTells", apart := false, narrowed := true }
def ConvertTellsUptoSaid : Prop := convertTellsUptoRow.holds Try.pinned (OpenSpec.upto convertTellsSpec)

/-- 'lingualaw39.ConvertShown', WHERE WHAT IT READS IS OF BULK AT MOST 1048576: true; the input reads as it did. -/
def convertShownUptoRow : OpenClaim := { program := "ytkacfhhpmpmhkaa", sum := "55e11db1a2a6e1b217fa2098b2d5dd50fe4e1625c364be12b6aa1ba9ef5e84dc", func := "lingua/lingualaw39.ConvertShown", spec := "convertShown", unfollowed := true, recurses := true, apart := false, narrowed := true }
def ConvertShownUptoSaid : Prop := convertShownUptoRow.holds Try.pinned (OpenSpec.upto convertShownSpec)

end Rows
end Go.Proofs.Ytkacfhhpmpmhkaa
