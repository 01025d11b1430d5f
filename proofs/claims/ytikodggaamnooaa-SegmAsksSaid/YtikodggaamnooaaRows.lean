/-
  No cell of these rows narrows 'for every input' (looked for: loops, veiled, ifaces, maps, wideKeys, modest, calm, conditions, laid).
  DERIVED. THE GIVEN ROWS OF THIS SEAT. 3 by the template 'for every input the law returns true; each argument reads behind the call as it read before'; 0 by the template 'total and deterministic' (their statements: YtikodggaamnooaaTotals.lean).
  GIVEN WITH THE SEED: the statements are not yours to turn. If you find one false, say at which input.
  Laid BY PROGRAM, IN A SANDBOX (cutbox-rows.mjs): the forced cells as the released guide's own fill.sh prints them over the translation 21994ba2daa4f561… (all of the seat's roots in one cut). By AI agents, Wed Nov 11 2026. No macro, syntax, notation, axiom, sorry.
-/
import Derived.Test.YtikodggaamnooaaChecked
import GoSem.Claim
import GoSem.ClaimJoined
import GoSem.ClaimMapViews
import Derived.JoinedTies
import Derived.KernelRfl
namespace Go.Proofs.Ytikodggaamnooaa
/- THE CELL 'sum', in the pinned program and in every row, IS THE sha256 OF THE DUMP (.gsa) THAT YtikodggaamnooaaProg.lean LOADS. Nothing in Lean hashes anything: it is a label: what it is worth is what the hold of that sum in a sandbox is worth. -/
noncomputable def Try.pinned : Pinned := { name := "ytikodggaamnooaa", sum := "21994ba2daa4f5612d5c3fde4eb1a22ad02c7d9df02dee816f422529ad7ddd7b", checked := Try.checked }
namespace Rows
def none {H : Type} : Left H := { results := [], args := [] }

/-- 'mizzenlaw6.SegmCuts': WHATEVER THE INPUT: true; the input reads as it did. -/
def segmCutsSpec : ChangeSpec := { name := "segmCuts", fn := fun _ => fun
  | [d1, d2, d3] => { results := [.lit (.bool true)], args := [d1, d2, d3] }
  | _ => none }
def segmCutsRow : OpenClaim := { program := "ytikodggaamnooaa", sum := "21994ba2daa4f5612d5c3fde4eb1a22ad02c7d9df02dee816f422529ad7ddd7b", func := "mizzen/mizzenlaw6.SegmCuts", spec := "segmCuts", apart := false }
def SegmCutsSaid : Prop := segmCutsRow.holds Try.pinned (OpenSpec.ofChange segmCutsSpec)

/-- ITS FALSE NEIGHBOUR: 'it returns false'. Refute it at one input. -/
def segmCutsWrong : ChangeSpec := { name := "segmCuts", fn := fun _ => fun
  | [d1, d2, d3] => { results := [.lit (.bool false)], args := [d1, d2, d3] }
  | _ => none }
def SegmCutsWrongFalsely : Prop := segmCutsRow.holds Try.pinned (OpenSpec.ofChange segmCutsWrong)

/-- 'mizzenlaw6.SegmWhole': WHATEVER THE INPUT: true; the input reads as it did. -/
def segmWholeSpec : ChangeSpec := { name := "segmWhole", fn := fun _ => fun
  | [d1, d2, d3] => { results := [.lit (.bool true)], args := [d1, d2, d3] }
  | _ => none }
def segmWholeRow : OpenClaim := { program := "ytikodggaamnooaa", sum := "21994ba2daa4f5612d5c3fde4eb1a22ad02c7d9df02dee816f422529ad7ddd7b", func := "mizzen/mizzenlaw6.SegmWhole", spec := "segmWhole", apart := false }
def SegmWholeSaid : Prop := segmWholeRow.holds Try.pinned (OpenSpec.ofChange segmWholeSpec)

/-- ITS FALSE NEIGHBOUR: 'it returns false'. Refute it at one input. -/
def segmWholeWrong : ChangeSpec := { name := "segmWhole", fn := fun _ => fun
  | [d1, d2, d3] => { results := [.lit (.bool false)], args := [d1, d2, d3] }
  | _ => none }
def SegmWholeWrongFalsely : Prop := segmWholeRow.holds Try.pinned (OpenSpec.ofChange segmWholeWrong)

/-- 'mizzenlaw6.SegmAsks': WHATEVER THE INPUT: true; the input reads as it did. -/
def segmAsksSpec : ChangeSpec := { name := "segmAsks", fn := fun _ => fun
  | [d1, d2, d3, d4, d5, d6] => { results := [.lit (.bool true)], args := [d1, d2, d3, d4, d5, d6] }
  | _ => none }
def segmAsksRow : OpenClaim := { program := "ytikodggaamnooaa", sum := "21994ba2daa4f5612d5c3fde4eb1a22ad02c7d9df02dee816f422529ad7ddd7b", func := "mizzen/mizzenlaw6.SegmAsks", spec := "segmAsks", apart := false }
def SegmAsksSaid : Prop := segmAsksRow.holds Try.pinned (OpenSpec.ofChange segmAsksSpec)

/-- ITS FALSE NEIGHBOUR: 'it returns false'. Refute it at one input. -/
def segmAsksWrong : ChangeSpec := { name := "segmAsks", fn := fun _ => fun
  | [d1, d2, d3, d4, d5, d6] => { results := [.lit (.bool false)], args := [d1, d2, d3, d4, d5, d6] }
  | _ => none }
def SegmAsksWrongFalsely : Prop := segmAsksRow.holds Try.pinned (OpenSpec.ofChange segmAsksWrong)

/- THE SECOND FORM. 'bulk': how many values and letters a reading holds, each counted each time it is reached (what is shared counts as often as it is met; a slice's spare places count too). A statement '..UptoSaid' is the law's where the arguments, and the package variables that the reading takes, are together of bulk at most 1048576: NARROWER than '..Said'. Prove '..Said' where nothing that the law and all that it calls make is longer than what came in: it says more and counts as full. Else prove '..UptoSaid'. A law counts once. -/
mutual
def uptoBulk {H : Type} : DataW H → Nat
  | .lit (.string bytes) => bytes.length + 1
  | .lit _ => 1
  | .nil => 1
  | .ptr d => uptoBulk d + 1
  | .slice elems spare => uptoBulkAll elems + uptoBulkAll spare + 1
  | .agg parts => uptoBulkAll parts + 1
  | .iface _ d => uptoBulk d + 1
  | .map entries => uptoBulkEntries entries + 1
  | .held _ => 1
def uptoBulkAll {H : Type} : List (DataW H) → Nat
  | [] => 0
  | d :: r => uptoBulk d + uptoBulkAll r
def uptoBulkEntries {H : Type} : List (Lit × DataW H) → Nat
  | [] => 0
  | x :: r => uptoBulkEntry x + uptoBulkEntries r
def uptoBulkEntry {H : Type} : Lit × DataW H → Nat
  | (.string bytes, d) => bytes.length + uptoBulk d + 1
  | (_, d) => uptoBulk d + 1
 end
def uptoSmall : (H : Type) → List (DataW H) → Bool := fun _ ds => decide (uptoBulkAll ds ≤ 1048576)
def OpenSpec.upto (s : _root_.Go.ChangeSpec) : _root_.Go.OpenSpec := { _root_.Go.OpenSpec.ofChange s with cond := some uptoSmall }

/-- 'mizzenlaw6.SegmCuts', WHERE WHAT IT READS IS OF BULK AT MOST 1048576: true; the input reads as it did. -/
def segmCutsUptoRow : OpenClaim := { program := "ytikodggaamnooaa", sum := "21994ba2daa4f5612d5c3fde4eb1a22ad02c7d9df02dee816f422529ad7ddd7b", func := "mizzen/mizzenlaw6.SegmCuts", spec := "segmCuts", apart := false, narrowed := true }
def SegmCutsUptoSaid : Prop := segmCutsUptoRow.holds Try.pinned (OpenSpec.upto segmCutsSpec)

/-- 'mizzenlaw6.SegmWhole', WHERE WHAT IT READS IS OF BULK AT MOST 1048576: true; the input reads as it did. -/
def segmWholeUptoRow : OpenClaim := { program := "ytikodggaamnooaa", sum := "21994ba2daa4f5612d5c3fde4eb1a22ad02c7d9df02dee816f422529ad7ddd7b", func := "mizzen/mizzenlaw6.SegmWhole", spec := "segmWhole", apart := false, narrowed := true }
def SegmWholeUptoSaid : Prop := segmWholeUptoRow.holds Try.pinned (OpenSpec.upto segmWholeSpec)

/-- 'mizzenlaw6.SegmAsks', WHERE WHAT IT READS IS OF BULK AT MOST 1048576: true; the input reads as it did. -/
def segmAsksUptoRow : OpenClaim := { program := "ytikodggaamnooaa", sum := "21994ba2daa4f5612d5c3fde4eb1a22ad02c7d9df02dee816f422529ad7ddd7b", func := "mizzen/mizzenlaw6.SegmAsks", spec := "segmAsks", apart := false, narrowed := true }
def SegmAsksUptoSaid : Prop := segmAsksUptoRow.holds Try.pinned (OpenSpec.upto segmAsksSpec)

end Rows
end Go.Proofs.Ytikodggaamnooaa
