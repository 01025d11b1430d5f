/-
  No cell of these rows narrows 'for every input' (looked for: loops, veiled, ifaces, maps, wideKeys, modest, calm, conditions, laid).
  DERIVED. THE GIVEN ROWS OF THIS SEAT. 4 by the template 'for every input the law returns true; each argument reads behind the call as it read before'; 0 by the template 'total and deterministic' (their statements: YtohjnplhmbfjlaaTotals.lean).
  GIVEN WITH THE SEED: the statements are not yours to turn. If you find one false, say at which input.
  Laid BY PROGRAM, IN A SANDBOX (cutbox-rows.mjs): the forced cells as the released guide's own fill.sh prints them over the translation 480a62d5870d596b… (all of the seat's roots in one cut). By AI agents, Wed Nov 11 2026. No macro, syntax, notation, axiom, sorry.
-/
import Derived.Test.YtohjnplhmbfjlaaChecked
import GoSem.Claim
import GoSem.ClaimJoined
import GoSem.ClaimMapViews
import Derived.JoinedTies
import Derived.KernelRfl
namespace Go.Proofs.Ytohjnplhmbfjlaa
/- THE CELL 'sum', in the pinned program and in every row, IS THE sha256 OF THE DUMP (.gsa) THAT YtohjnplhmbfjlaaProg.lean LOADS. Nothing in Lean hashes anything: it is a label: what it is worth is what the hold of that sum in a sandbox is worth. -/
noncomputable def Try.pinned : Pinned := { name := "ytohjnplhmbfjlaa", sum := "480a62d5870d596b35c5e68f45b009a620437d0db17998317ff713a96ed99800", checked := Try.checked }
namespace Rows
def none {H : Type} : Left H := { results := [], args := [] }

/-- 'mizzenlaw18.PullsFair': WHATEVER THE INPUT: true; the input reads as it did. -/
def pullsFairSpec : ChangeSpec := { name := "pullsFair", fn := fun _ => fun
  | [d1, d2, d3] => { results := [.lit (.bool true)], args := [d1, d2, d3] }
  | _ => none }
def pullsFairRow : OpenClaim := { program := "ytohjnplhmbfjlaa", sum := "480a62d5870d596b35c5e68f45b009a620437d0db17998317ff713a96ed99800", func := "mizzen/mizzenlaw18.PullsFair", spec := "pullsFair", inPlace := ["slices.overlaps[mizzen/pulls.flow]"], unfollowed := true, recurses := true, apart := false }
def PullsFairSaid : Prop := pullsFairRow.holds Try.pinned (OpenSpec.ofChange pullsFairSpec)

/-- ITS FALSE NEIGHBOUR: 'it returns false'. Refute it at one input. -/
def pullsFairWrong : ChangeSpec := { name := "pullsFair", fn := fun _ => fun
  | [d1, d2, d3] => { results := [.lit (.bool false)], args := [d1, d2, d3] }
  | _ => none }
def PullsFairWrongFalsely : Prop := pullsFairRow.holds Try.pinned (OpenSpec.ofChange pullsFairWrong)

/-- 'mizzenlaw18.PullsPlays': WHATEVER THE INPUT: true; the input reads as it did. -/
def pullsPlaysSpec : ChangeSpec := { name := "pullsPlays", fn := fun _ => fun
  | [d1, d2] => { results := [.lit (.bool true)], args := [d1, d2] }
  | _ => none }
def pullsPlaysRow : OpenClaim := { program := "ytohjnplhmbfjlaa", sum := "480a62d5870d596b35c5e68f45b009a620437d0db17998317ff713a96ed99800", func := "mizzen/mizzenlaw18.PullsPlays", spec := "pullsPlays", inPlace := ["slices.overlaps[mizzen/pulls.flow]"], unfollowed := true, recurses := true, apart := false }
def PullsPlaysSaid : Prop := pullsPlaysRow.holds Try.pinned (OpenSpec.ofChange pullsPlaysSpec)

/-- ITS FALSE NEIGHBOUR: 'it returns false'. Refute it at one input. -/
def pullsPlaysWrong : ChangeSpec := { name := "pullsPlays", fn := fun _ => fun
  | [d1, d2] => { results := [.lit (.bool false)], args := [d1, d2] }
  | _ => none }
def PullsPlaysWrongFalsely : Prop := pullsPlaysRow.holds Try.pinned (OpenSpec.ofChange pullsPlaysWrong)

/-- 'mizzenlaw18.PullsFlows': WHATEVER THE INPUT: true; the input reads as it did. -/
def pullsFlowsSpec : ChangeSpec := { name := "pullsFlows", fn := fun _ => fun
  | [d1, d2, d3] => { results := [.lit (.bool true)], args := [d1, d2, d3] }
  | _ => none }
def pullsFlowsRow : OpenClaim := { program := "ytohjnplhmbfjlaa", sum := "480a62d5870d596b35c5e68f45b009a620437d0db17998317ff713a96ed99800", func := "mizzen/mizzenlaw18.PullsFlows", spec := "pullsFlows", inPlace := ["slices.overlaps[mizzen/pulls.flow]"], unfollowed := true, recurses := true, apart := false }
def PullsFlowsSaid : Prop := pullsFlowsRow.holds Try.pinned (OpenSpec.ofChange pullsFlowsSpec)

/-- ITS FALSE NEIGHBOUR: 'it returns false'. Refute it at one input. -/
def pullsFlowsWrong : ChangeSpec := { name := "pullsFlows", fn := fun _ => fun
  | [d1, d2, d3] => { results := [.lit (.bool false)], args := [d1, d2, d3] }
  | _ => none }
def PullsFlowsWrongFalsely : Prop := pullsFlowsRow.holds Try.pinned (OpenSpec.ofChange pullsFlowsWrong)

/-- 'mizzenlaw18.PullsNothing': WHATEVER THE INPUT: true; the input reads as it did. -/
def pullsNothingSpec : ChangeSpec := { name := "pullsNothing", fn := fun _ => fun
  | [d1, d2, d3] => { results := [.lit (.bool true)], args := [d1, d2, d3] }
  | _ => none }
def pullsNothingRow : OpenClaim := { program := "ytohjnplhmbfjlaa", sum := "480a62d5870d596b35c5e68f45b009a620437d0db17998317ff713a96ed99800", func := "mizzen/mizzenlaw18.PullsNothing", spec := "pullsNothing", inPlace := ["slices.overlaps[mizzen/pulls.flow]"], unfollowed := true, recurses := true, apart := false }
def PullsNothingSaid : Prop := pullsNothingRow.holds Try.pinned (OpenSpec.ofChange pullsNothingSpec)

/-- ITS FALSE NEIGHBOUR: 'it returns false'. Refute it at one input. -/
def pullsNothingWrong : ChangeSpec := { name := "pullsNothing", fn := fun _ => fun
  | [d1, d2, d3] => { results := [.lit (.bool false)], args := [d1, d2, d3] }
  | _ => none }
def PullsNothingWrongFalsely : Prop := pullsNothingRow.holds Try.pinned (OpenSpec.ofChange pullsNothingWrong)

/- THE SECOND FORM. 'bulk': how many values and letters a reading holds, each counted each time it is reached (what is shared counts as often as it is met; a slice's spare places count too). A statement '..UptoSaid' is the law's where the arguments, and the package variables that the reading takes, are together of bulk at most 1048576: NARROWER than '..Said'. Prove '..Said' where nothing that the law and all that it calls make is longer than what came in: it says more and counts as full. Else prove '..UptoSaid'. A law counts once. -/
mutual
def uptoBulk {H : Type} : DataW H → Nat
  | .lit (.string bytes) => bytes.length + 1
  | .lit _ => 1
  | .nil => 1
  | .ptr d => uptoBulk d + 1
  | .slice elems spare => uptoBulkAll elems + uptoBulkAll spare + 1
  | .agg parts => uptoBulkAll parts + 1
  | .iface _ d => uptoBulk d + 1
  | .map entries => uptoBulkEntries entries + 1
  | .held _ => 1
def uptoBulkAll {H : Type} : List (DataW H) → Nat
  | [] => 0
  | d :: r => uptoBulk d + uptoBulkAll r
def uptoBulkEntries {H : Type} : List (Lit × DataW H) → Nat
  | [] => 0
  | x :: r => uptoBulkEntry x + uptoBulkEntries r
def uptoBulkEntry {H : Type} : Lit × DataW H → Nat
  | (.string bytes, d) => bytes.length + uptoBulk d + 1
  | (_, d) => uptoBulk d + 1
 end
def uptoSmall : (H : Type) → List (DataW H) → Bool := fun _ ds => decide (uptoBulkAll ds ≤ 1048576)
def OpenSpec.upto (s : _root_.Go.ChangeSpec) : _root_.Go.OpenSpec := { _root_.Go.OpenSpec.ofChange s with cond := some uptoSmall }

/-- 'mizzenlaw18.PullsFair', WHERE WHAT IT READS IS OF BULK AT MOST 1048576: true; the input reads as it did. -/
def pullsFairUptoRow : OpenClaim := { program := "ytohjnplhmbfjlaa", sum := "480a62d5870d596b35c5e68f45b009a620437d0db17998317ff713a96ed99800", func := "mizzen/mizzenlaw18.PullsFair", spec := "pullsFair", inPlace := ["slices.overlaps[mizzen/pulls.flow]"], unfollowed := true, recurses := true, apart := false, narrowed := true }
def PullsFairUptoSaid : Prop := pullsFairUptoRow.holds Try.pinned (OpenSpec.upto pullsFairSpec)

/-- 'mizzenlaw18.PullsPlays', WHERE WHAT IT READS IS OF BULK AT MOST 1048576: true; the input reads as it did. -/
def pullsPlaysUptoRow : OpenClaim := { program := "ytohjnplhmbfjlaa", sum := "480a62d5870d596b35c5e68f45b009a620437d0db17998317ff713a96ed99800", func := "mizzen/mizzenlaw18.PullsPlays", spec := "pullsPlays", inPlace := ["slices.overlaps[mizzen/pulls.flow]"], unfollowed := true, recurses := true, apart := false, narrowed := true }
def PullsPlaysUptoSaid : Prop := pullsPlaysUptoRow.holds Try.pinned (OpenSpec.upto pullsPlaysSpec)

/-- 'mizzenlaw18.PullsFlows', WHERE WHAT IT READS IS OF BULK AT MOST 1048576: true; the input reads as it did. -/
def pullsFlowsUptoRow : OpenClaim := { program := "ytohjnplhmbfjlaa", sum := "480a62d5870d596b35c5e68f45b009a620437d0db17998317ff713a96ed99800", func := "mizzen/mizzenlaw18.PullsFlows", spec := "pullsFlows", inPlace := ["slices.overlaps[mizzen/pulls.flow]"], unfollowed := true, recurses := true, apart := false, narrowed := true }
def PullsFlowsUptoSaid : Prop := pullsFlowsUptoRow.holds Try.pinned (OpenSpec.upto pullsFlowsSpec)

/-- 'mizzenlaw18.PullsNothing', WHERE WHAT IT READS IS OF BULK AT MOST 1048576: true; the input reads as it did. -/
def pullsNothingUptoRow : OpenClaim := { program := "ytohjnplhmbfjlaa", sum := "480a62d5870d596b35c5e68f45b009a620437d0db17998317ff713a96ed99800", func := "mizzen/mizzenlaw18.PullsNothing", spec := "pullsNothing", inPlace := ["slices.overlaps[mizzen/pulls.flow]"], unfollowed := true, recurses := true, apart := false, narrowed := true }
def PullsNothingUptoSaid : Prop := pullsNothingUptoRow.holds Try.pinned (OpenSpec.upto pullsNothingSpec)

end Rows
end Go.Proofs.Ytohjnplhmbfjlaa
