/-
  No cell of these rows narrows 'for every input' (looked for: loops, veiled, ifaces, maps, wideKeys, modest, calm, conditions, laid).
  DERIVED. THE GIVEN ROWS OF THIS SEAT. 4 by the template 'for every input the law returns true; each argument reads behind the call as it read before'; 0 by the template 'total and deterministic' (their statements: YtoihhidoafgoaaaTotals.lean).
  GIVEN WITH THE SEED: the statements are not yours to turn. If you find one false, say at which input.
  Laid BY PROGRAM, IN A SANDBOX (cutbox-rows.mjs): the forced cells as the released guide's own fill.sh prints them over the translation c765abb28f7127bf… (all of the seat's roots in one cut). By AI agents, Wed Nov 11 2026. No macro, syntax, notation, axiom, sorry.
-/
import Derived.Test.YtoihhidoafgoaaaChecked
import GoSem.Claim
import GoSem.ClaimJoined
import GoSem.ClaimMapViews
import Derived.JoinedTies
import Derived.KernelRfl
namespace Go.Proofs.Ytoihhidoafgoaaa
/- THE CELL 'sum', in the pinned program and in every row, IS THE sha256 OF THE DUMP (.gsa) THAT YtoihhidoafgoaaaProg.lean LOADS. Nothing in Lean hashes anything: it is a label: what it is worth is what the hold of that sum in a sandbox is worth. -/
noncomputable def Try.pinned : Pinned := { name := "ytoihhidoafgoaaa", sum := "c765abb28f7127bff509e04c47c9049ebdb616850806a75bf344d4b77ea9d1bc", checked := Try.checked }
namespace Rows
def none {H : Type} : Left H := { results := [], args := [] }

/-- 'mizzenlaw15.FabricArrives': WHATEVER THE INPUT: true; the input reads as it did. -/
def fabricArrivesSpec : ChangeSpec := { name := "fabricArrives", fn := fun _ => fun
  | [d1, d2, d3, d4] => { results := [.lit (.bool true)], args := [d1, d2, d3, d4] }
  | _ => none }
def fabricArrivesRow : OpenClaim := { program := "ytoihhidoafgoaaa", sum := "c765abb28f7127bff509e04c47c9049ebdb616850806a75bf344d4b77ea9d1bc", func := "mizzen/mizzenlaw15.FabricArrives", spec := "fabricArrives", unfollowed := true, recurses := true, apart := false }
def FabricArrivesSaid : Prop := fabricArrivesRow.holds Try.pinned (OpenSpec.ofChange fabricArrivesSpec)

/-- ITS FALSE NEIGHBOUR: 'it returns false'. Refute it at one input. -/
def fabricArrivesWrong : ChangeSpec := { name := "fabricArrives", fn := fun _ => fun
  | [d1, d2, d3, d4] => { results := [.lit (.bool false)], args := [d1, d2, d3, d4] }
  | _ => none }
def FabricArrivesWrongFalsely : Prop := fabricArrivesRow.holds Try.pinned (OpenSpec.ofChange fabricArrivesWrong)

/-- 'mizzenlaw15.FabricSpines': WHATEVER THE INPUT: true; the input reads as it did. -/
def fabricSpinesSpec : ChangeSpec := { name := "fabricSpines", fn := fun _ => fun
  | [d1, d2, d3] => { results := [.lit (.bool true)], args := [d1, d2, d3] }
  | _ => none }
def fabricSpinesRow : OpenClaim := { program := "ytoihhidoafgoaaa", sum := "c765abb28f7127bff509e04c47c9049ebdb616850806a75bf344d4b77ea9d1bc", func := "mizzen/mizzenlaw15.FabricSpines", spec := "fabricSpines", unfollowed := true, recurses := true, apart := false }
def FabricSpinesSaid : Prop := fabricSpinesRow.holds Try.pinned (OpenSpec.ofChange fabricSpinesSpec)

/-- ITS FALSE NEIGHBOUR: 'it returns false'. Refute it at one input. -/
def fabricSpinesWrong : ChangeSpec := { name := "fabricSpines", fn := fun _ => fun
  | [d1, d2, d3] => { results := [.lit (.bool false)], args := [d1, d2, d3] }
  | _ => none }
def FabricSpinesWrongFalsely : Prop := fabricSpinesRow.holds Try.pinned (OpenSpec.ofChange fabricSpinesWrong)

/-- 'mizzenlaw15.FabricPlays': WHATEVER THE INPUT: true; the input reads as it did. -/
def fabricPlaysSpec : ChangeSpec := { name := "fabricPlays", fn := fun _ => fun
  | [d1, d2, d3, d4, d5, d6] => { results := [.lit (.bool true)], args := [d1, d2, d3, d4, d5, d6] }
  | _ => none }
def fabricPlaysRow : OpenClaim := { program := "ytoihhidoafgoaaa", sum := "c765abb28f7127bff509e04c47c9049ebdb616850806a75bf344d4b77ea9d1bc", func := "mizzen/mizzenlaw15.FabricPlays", spec := "fabricPlays", unfollowed := true, recurses := true, apart := false }
def FabricPlaysSaid : Prop := fabricPlaysRow.holds Try.pinned (OpenSpec.ofChange fabricPlaysSpec)

/-- ITS FALSE NEIGHBOUR: 'it returns false'. Refute it at one input. -/
def fabricPlaysWrong : ChangeSpec := { name := "fabricPlays", fn := fun _ => fun
  | [d1, d2, d3, d4, d5, d6] => { results := [.lit (.bool false)], args := [d1, d2, d3, d4, d5, d6] }
  | _ => none }
def FabricPlaysWrongFalsely : Prop := fabricPlaysRow.holds Try.pinned (OpenSpec.ofChange fabricPlaysWrong)

/-- 'mizzenlaw15.FabricCounts': WHATEVER THE INPUT: true; the input reads as it did. -/
def fabricCountsSpec : ChangeSpec := { name := "fabricCounts", fn := fun _ => fun
  | [d1, d2] => { results := [.lit (.bool true)], args := [d1, d2] }
  | _ => none }
def fabricCountsRow : OpenClaim := { program := "ytoihhidoafgoaaa", sum := "c765abb28f7127bff509e04c47c9049ebdb616850806a75bf344d4b77ea9d1bc", func := "mizzen/mizzenlaw15.FabricCounts", spec := "fabricCounts", unfollowed := true, recurses := true, apart := false }
def FabricCountsSaid : Prop := fabricCountsRow.holds Try.pinned (OpenSpec.ofChange fabricCountsSpec)

/-- ITS FALSE NEIGHBOUR: 'it returns false'. Refute it at one input. -/
def fabricCountsWrong : ChangeSpec := { name := "fabricCounts", fn := fun _ => fun
  | [d1, d2] => { results := [.lit (.bool false)], args := [d1, d2] }
  | _ => none }
def FabricCountsWrongFalsely : Prop := fabricCountsRow.holds Try.pinned (OpenSpec.ofChange fabricCountsWrong)

/- THE SECOND FORM. 'bulk': how many values and letters a reading holds, each counted each time it is reached (what is shared counts as often as it is met; a slice's spare places count too). A statement '..UptoSaid' is the law's where the arguments, and the package variables that the reading takes, are together of bulk at most 1048576: NARROWER than '..Said'. Prove '..Said' where nothing that the law and all that it calls make is longer than what came in: it says more and counts as full. Else prove '..UptoSaid'. A law counts once. -/
mutual
def uptoBulk {H : Type} : DataW H → Nat
  | .lit (.string bytes) => bytes.length + 1
  | .lit _ => 1
  | .nil => 1
  | .ptr d => uptoBulk d + 1
  | .slice elems spare => uptoBulkAll elems + uptoBulkAll spare + 1
  | .agg parts => uptoBulkAll parts + 1
  | .iface _ d => uptoBulk d + 1
  | .map entries => uptoBulkEntries entries + 1
  | .held _ => 1
def uptoBulkAll {H : Type} : List (DataW H) → Nat
  | [] => 0
  | d :: r => uptoBulk d + uptoBulkAll r
def uptoBulkEntries {H : Type} : List (Lit × DataW H) → Nat
  | [] => 0
  | x :: r => uptoBulkEntry x + uptoBulkEntries r
def uptoBulkEntry {H : Type} : Lit × DataW H → Nat
  | (.string bytes, d) => bytes.length + uptoBulk d + 1
  | (_, d) => uptoBulk d + 1
 end
def uptoSmall : (H : Type) → List (DataW H) → Bool := fun _ ds => decide (uptoBulkAll ds ≤ 1048576)
def OpenSpec.upto (s : _root_.Go.ChangeSpec) : _root_.Go.OpenSpec := { _root_.Go.OpenSpec.ofChange s with cond := some uptoSmall }

/-- 'mizzenlaw15.FabricArrives', WHERE WHAT IT READS IS OF BULK AT MOST 1048576: true; the input reads as it did. -/
def fabricArrivesUptoRow : OpenClaim := { program := "ytoihhidoafgoaaa", sum := "c765abb28f7127bff509e04c47c9049ebdb616850806a75bf344d4b77ea9d1bc", func := "mizzen/mizzenlaw15.FabricArrives", spec := "fabricArrives", unfollowed := true, recurses := true, apart := false, narrowed := true }
def FabricArrivesUptoSaid : Prop := fabricArrivesUptoRow.holds Try.pinned (OpenSpec.upto fabricArrivesSpec)

/-- 'mizzenlaw15.FabricSpines', WHERE WHAT IT READS IS OF BULK AT MOST 1048576: true; the input reads as it did. -/
def fabricSpinesUptoRow : OpenClaim := { program := "ytoihhidoafgoaaa", sum := "c765abb28f7127bff509e04c47c9049ebdb616850806a75bf344d4b77ea9d1bc", func := "mizzen/mizzenlaw15.FabricSpines", spec := "fabricSpines", unfollowed := true, recurses := true, apart := false, narrowed := true }
def FabricSpinesUptoSaid : Prop := fabricSpinesUptoRow.holds Try.pinned (OpenSpec.upto fabricSpinesSpec)

/-- 'mizzenlaw15.FabricPlays', WHERE WHAT IT READS IS OF BULK AT MOST 1048576: true; the input reads as it did. -/
def fabricPlaysUptoRow : OpenClaim := { program := "ytoihhidoafgoaaa", sum := "c765abb28f7127bff509e04c47c9049ebdb616850806a75bf344d4b77ea9d1bc", func := "mizzen/mizzenlaw15.FabricPlays", spec := "fabricPlays", unfollowed := true, recurses := true, apart := false, narrowed := true }
def FabricPlaysUptoSaid : Prop := fabricPlaysUptoRow.holds Try.pinned (OpenSpec.upto fabricPlaysSpec)

/-- 'mizzenlaw15.FabricCounts', WHERE WHAT IT READS IS OF BULK AT MOST 1048576: true; the input reads as it did. -/
def fabricCountsUptoRow : OpenClaim := { program := "ytoihhidoafgoaaa", sum := "c765abb28f7127bff509e04c47c9049ebdb616850806a75bf344d4b77ea9d1bc", func := "mizzen/mizzenlaw15.FabricCounts", spec := "fabricCounts", unfollowed := true, recurses := true, apart := false, narrowed := true }
def FabricCountsUptoSaid : Prop := fabricCountsUptoRow.holds Try.pinned (OpenSpec.upto fabricCountsSpec)

end Rows
end Go.Proofs.Ytoihhidoafgoaaa
