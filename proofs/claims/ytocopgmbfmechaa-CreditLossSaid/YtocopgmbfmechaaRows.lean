/-
  No cell of these rows narrows 'for every input' (looked for: loops, veiled, ifaces, maps, wideKeys, modest, calm, conditions, laid).
  DERIVED. THE GIVEN ROWS OF THIS SEAT. 3 by the template 'for every input the law returns true; each argument reads behind the call as it read before'; 0 by the template 'total and deterministic' (their statements: YtocopgmbfmechaaTotals.lean).
  GIVEN WITH THE SEED: the statements are not yours to turn. If you find one false, say at which input.
  Laid BY PROGRAM, IN A SANDBOX (cutbox-rows.mjs): the forced cells as the released guide's own fill.sh prints them over the translation 2d6f03d620e6ade4… (all of the seat's roots in one cut). By AI agents, Wed Nov 11 2026. No macro, syntax, notation, axiom, sorry.
-/
import Derived.Test.YtocopgmbfmechaaChecked
import GoSem.Claim
import GoSem.ClaimJoined
import GoSem.ClaimMapViews
import Derived.JoinedTies
import Derived.KernelRfl
namespace Go.Proofs.Ytocopgmbfmechaa
/- THE CELL 'sum', in the pinned program and in every row, IS THE sha256 OF THE DUMP (.gsa) THAT YtocopgmbfmechaaProg.lean LOADS. Nothing in Lean hashes anything: it is a label: what it is worth is what the hold of that sum in a sandbox is worth. -/
noncomputable def Try.pinned : Pinned := { name := "ytocopgmbfmechaa", sum := "2d6f03d620e6ade4c97a6889ac666c4c80b97a62b33ca56f5aaf21463dfbedf8", checked := Try.checked }
namespace Rows
def none {H : Type} : Left H := { results := [], args := [] }

/-- 'mizzenlaw19.CreditPlays': WHATEVER THE INPUT: true; the input reads as it did. -/
def creditPlaysSpec : ChangeSpec := { name := "creditPlays", fn := fun _ => fun
  | [d1, d2, d3] => { results := [.lit (.bool true)], args := [d1, d2, d3] }
  | _ => none }
def creditPlaysRow : OpenClaim := { program := "ytocopgmbfmechaa", sum := "2d6f03d620e6ade4c97a6889ac666c4c80b97a62b33ca56f5aaf21463dfbedf8", func := "mizzen/mizzenlaw19.CreditPlays", spec := "creditPlays", apart := false }
def CreditPlaysSaid : Prop := creditPlaysRow.holds Try.pinned (OpenSpec.ofChange creditPlaysSpec)

/-- ITS FALSE NEIGHBOUR: 'it returns false'. Refute it at one input. -/
def creditPlaysWrong : ChangeSpec := { name := "creditPlays", fn := fun _ => fun
  | [d1, d2, d3] => { results := [.lit (.bool false)], args := [d1, d2, d3] }
  | _ => none }
def CreditPlaysWrongFalsely : Prop := creditPlaysRow.holds Try.pinned (OpenSpec.ofChange creditPlaysWrong)

/-- 'mizzenlaw19.CreditLimits': WHATEVER THE INPUT: true; the input reads as it did. -/
def creditLimitsSpec : ChangeSpec := { name := "creditLimits", fn := fun _ => fun
  | [d1, d2, d3] => { results := [.lit (.bool true)], args := [d1, d2, d3] }
  | _ => none }
def creditLimitsRow : OpenClaim := { program := "ytocopgmbfmechaa", sum := "2d6f03d620e6ade4c97a6889ac666c4c80b97a62b33ca56f5aaf21463dfbedf8", func := "mizzen/mizzenlaw19.CreditLimits", spec := "creditLimits", apart := false }
def CreditLimitsSaid : Prop := creditLimitsRow.holds Try.pinned (OpenSpec.ofChange creditLimitsSpec)

/-- ITS FALSE NEIGHBOUR: 'it returns false'. Refute it at one input. -/
def creditLimitsWrong : ChangeSpec := { name := "creditLimits", fn := fun _ => fun
  | [d1, d2, d3] => { results := [.lit (.bool false)], args := [d1, d2, d3] }
  | _ => none }
def CreditLimitsWrongFalsely : Prop := creditLimitsRow.holds Try.pinned (OpenSpec.ofChange creditLimitsWrong)

/-- 'mizzenlaw19.CreditLoss': WHATEVER THE INPUT: true; the input reads as it did. -/
def creditLossSpec : ChangeSpec := { name := "creditLoss", fn := fun _ => fun
  | [d1, d2] => { results := [.lit (.bool true)], args := [d1, d2] }
  | _ => none }
def creditLossRow : OpenClaim := { program := "ytocopgmbfmechaa", sum := "2d6f03d620e6ade4c97a6889ac666c4c80b97a62b33ca56f5aaf21463dfbedf8", func := "mizzen/mizzenlaw19.CreditLoss", spec := "creditLoss", apart := false }
def CreditLossSaid : Prop := creditLossRow.holds Try.pinned (OpenSpec.ofChange creditLossSpec)

/-- ITS FALSE NEIGHBOUR: 'it returns false'. Refute it at one input. -/
def creditLossWrong : ChangeSpec := { name := "creditLoss", fn := fun _ => fun
  | [d1, d2] => { results := [.lit (.bool false)], args := [d1, d2] }
  | _ => none }
def CreditLossWrongFalsely : Prop := creditLossRow.holds Try.pinned (OpenSpec.ofChange creditLossWrong)

/- THE SECOND FORM. 'bulk': how many values and letters a reading holds, each counted each time it is reached (what is shared counts as often as it is met; a slice's spare places count too). A statement '..UptoSaid' is the law's where the arguments, and the package variables that the reading takes, are together of bulk at most 1048576: NARROWER than '..Said'. Prove '..Said' where nothing that the law and all that it calls make is longer than what came in: it says more and counts as full. Else prove '..UptoSaid'. A law counts once. -/
mutual
def uptoBulk {H : Type} : DataW H → Nat
  | .lit (.string bytes) => bytes.length + 1
  | .lit _ => 1
  | .nil => 1
  | .ptr d => uptoBulk d + 1
  | .slice elems spare => uptoBulkAll elems + uptoBulkAll spare + 1
  | .agg parts => uptoBulkAll parts + 1
  | .iface _ d => uptoBulk d + 1
  | .map entries => uptoBulkEntries entries + 1
  | .held _ => 1
def uptoBulkAll {H : Type} : List (DataW H) → Nat
  | [] => 0
  | d :: r => uptoBulk d + uptoBulkAll r
def uptoBulkEntries {H : Type} : List (Lit × DataW H) → Nat
  | [] => 0
  | x :: r => uptoBulkEntry x + uptoBulkEntries r
def uptoBulkEntry {H : Type} : Lit × DataW H → Nat
  | (.string bytes, d) => bytes.length + uptoBulk d + 1
  | (_, d) => uptoBulk d + 1
 end
def uptoSmall : (H : Type) → List (DataW H) → Bool := fun _ ds => decide (uptoBulkAll ds ≤ 1048576)
def OpenSpec.upto (s : _root_.Go.ChangeSpec) : _root_.Go.OpenSpec := { _root_.Go.OpenSpec.ofChange s with cond := some uptoSmall }

/-- 'mizzenlaw19.CreditPlays', WHERE WHAT IT READS IS OF BULK AT MOST 1048576: true; the input reads as it did. -/
def creditPlaysUptoRow : OpenClaim := { program := "ytocopgmbfmechaa", sum := "2d6f03d620e6ade4c97a6889ac666c4c80b97a62b33ca56f5aaf21463dfbedf8", func := "mizzen/mizzenlaw19.CreditPlays", spec := "creditPlays", apart := false, narrowed := true }
def CreditPlaysUptoSaid : Prop := creditPlaysUptoRow.holds Try.pinned (OpenSpec.upto creditPlaysSpec)

/-- 'mizzenlaw19.CreditLimits', WHERE WHAT IT READS IS OF BULK AT MOST 1048576: true; the input reads as it did. -/
def creditLimitsUptoRow : OpenClaim := { program := "ytocopgmbfmechaa", sum := "2d6f03d620e6ade4c97a6889ac666c4c80b97a62b33ca56f5aaf21463dfbedf8", func := "mizzen/mizzenlaw19.CreditLimits", spec := "creditLimits", apart := false, narrowed := true }
def CreditLimitsUptoSaid : Prop := creditLimitsUptoRow.holds Try.pinned (OpenSpec.upto creditLimitsSpec)

/-- 'mizzenlaw19.CreditLoss', WHERE WHAT IT READS IS OF BULK AT MOST 1048576: true; the input reads as it did. -/
def creditLossUptoRow : OpenClaim := { program := "ytocopgmbfmechaa", sum := "2d6f03d620e6ade4c97a6889ac666c4c80b97a62b33ca56f5aaf21463dfbedf8", func := "mizzen/mizzenlaw19.CreditLoss", spec := "creditLoss", apart := false, narrowed := true }
def CreditLossUptoSaid : Prop := creditLossUptoRow.holds Try.pinned (OpenSpec.upto creditLossSpec)

end Rows
end Go.Proofs.Ytocopgmbfmechaa
