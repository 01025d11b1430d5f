/-
  No cell of these rows narrows 'for every input' (looked for: loops, veiled, ifaces, maps, wideKeys, modest, calm, conditions, laid).
  DERIVED. THE GIVEN ROWS OF THIS SEAT. 3 by the template 'for every input the law returns true; each argument reads behind the call as it read before'; 0 by the template 'total and deterministic' (their statements: YtkogodoaejoooaaTotals.lean).
  GIVEN WITH THE SEED: the statements are not yours to turn. If you find one false, say at which input.
  Laid BY PROGRAM, IN A SANDBOX (cutbox-rows.mjs): the forced cells as the released guide's own fill.sh prints them over the translation 7daf851bd9984133… (all of the seat's roots in one cut). By AI agents, Wed Nov 11 2026. No macro, syntax, notation, axiom, sorry.
-/
import Derived.Test.YtkogodoaejoooaaChecked
import GoSem.Claim
import GoSem.ClaimJoined
import GoSem.ClaimMapViews
import Derived.JoinedTies
import Derived.KernelRfl
namespace Go.Proofs.Ytkogodoaejoooaa
/- THE CELL 'sum', in the pinned program and in every row, IS THE sha256 OF THE DUMP (.gsa) THAT YtkogodoaejoooaaProg.lean LOADS. Nothing in Lean hashes anything: it is a label: what it is worth is what the hold of that sum in a sandbox is worth. -/
noncomputable def Try.pinned : Pinned := { name := "ytkogodoaejoooaa", sum := "7daf851bd998413389b24c0de7058f56d887807e6c2d7e1b7452ca3d5f6165e3", checked := Try.checked }
namespace Rows
def none {H : Type} : Left H := { results := [], args := [] }

/-- 'mizzenlaw7.ReasmAny': WHATEVER THE INPUT: true; the input reads as it did. -/
def reasmAnySpec : ChangeSpec := { name := "reasmAny", fn := fun _ => fun
  | [d1, d2, d3] => { results := [.lit (.bool true)], args := [d1, d2, d3] }
  | _ => none }
def reasmAnyRow : OpenClaim := { program := "ytkogodoaejoooaa", sum := "7daf851bd998413389b24c0de7058f56d887807e6c2d7e1b7452ca3d5f6165e3", func := "mizzen/mizzenlaw7.ReasmAny", spec := "reasmAny", inPlace := ["slices.overlaps[mizzen/api.Range]"], unfollowed := true, recurses := true, apart := false }
def ReasmAnySaid : Prop := reasmAnyRow.holds Try.pinned (OpenSpec.ofChange reasmAnySpec)

/-- ITS FALSE NEIGHBOUR: 'it returns false'. Refute it at one input. -/
def reasmAnyWrong : ChangeSpec := { name := "reasmAny", fn := fun _ => fun
  | [d1, d2, d3] => { results := [.lit (.bool false)], args := [d1, d2, d3] }
  | _ => none }
def ReasmAnyWrongFalsely : Prop := reasmAnyRow.holds Try.pinned (OpenSpec.ofChange reasmAnyWrong)

/-- 'mizzenlaw7.ReasmOther': WHATEVER THE INPUT: true; the input reads as it did. -/
def reasmOtherSpec : ChangeSpec := { name := "reasmOther", fn := fun _ => fun
  | [d1, d2, d3] => { results := [.lit (.bool true)], args := [d1, d2, d3] }
  | _ => none }
def reasmOtherRow : OpenClaim := { program := "ytkogodoaejoooaa", sum := "7daf851bd998413389b24c0de7058f56d887807e6c2d7e1b7452ca3d5f6165e3", func := "mizzen/mizzenlaw7.ReasmOther", spec := "reasmOther", inPlace := ["slices.overlaps[mizzen/api.Range]"], unfollowed := true, recurses := true, apart := false }
def ReasmOtherSaid : Prop := reasmOtherRow.holds Try.pinned (OpenSpec.ofChange reasmOtherSpec)

/-- ITS FALSE NEIGHBOUR: 'it returns false'. Refute it at one input. -/
def reasmOtherWrong : ChangeSpec := { name := "reasmOther", fn := fun _ => fun
  | [d1, d2, d3] => { results := [.lit (.bool false)], args := [d1, d2, d3] }
  | _ => none }
def ReasmOtherWrongFalsely : Prop := reasmOtherRow.holds Try.pinned (OpenSpec.ofChange reasmOtherWrong)

/-- 'mizzenlaw7.ReasmNothing': WHATEVER THE INPUT: true; the input reads as it did. -/
def reasmNothingSpec : ChangeSpec := { name := "reasmNothing", fn := fun _ => fun
  | [d] => { results := [.lit (.bool true)], args := [d] }
  | _ => none }
def reasmNothingRow : OpenClaim := { program := "ytkogodoaejoooaa", sum := "7daf851bd998413389b24c0de7058f56d887807e6c2d7e1b7452ca3d5f6165e3", func := "mizzen/mizzenlaw7.ReasmNothing", spec := "reasmNothing", inPlace := ["slices.overlaps[mizzen/api.Range]"], unfollowed := true, recurses := true, apart := false }
def ReasmNothingSaid : Prop := reasmNothingRow.holds Try.pinned (OpenSpec.ofChange reasmNothingSpec)

/-- ITS FALSE NEIGHBOUR: 'it returns false'. Refute it at one input. -/
def reasmNothingWrong : ChangeSpec := { name := "reasmNothing", fn := fun _ => fun
  | [d] => { results := [.lit (.bool false)], args := [d] }
  | _ => none }
def ReasmNothingWrongFalsely : Prop := reasmNothingRow.holds Try.pinned (OpenSpec.ofChange reasmNothingWrong)

/- THE SECOND FORM. 'bulk': how many values and letters a reading holds, each counted each time it is reached (what is shared counts as often as it is met; a slice's spare places count too). A statement '..UptoSaid' is the law's where the arguments, and the package variables that the reading takes, are together of bulk at most 1048576: NARROWER than '..Said'. Prove '..Said' where nothing that the law and all that it calls make is longer than what came in: it says more and counts as full. Else prove '..UptoSaid'. A law counts once. -/
mutual
def uptoBulk {H : Type} : DataW H → Nat
  | .lit (.string bytes) => bytes.length + 1
  | .lit _ => 1
  | .nil => 1
  | .ptr d => uptoBulk d + 1
  | .slice elems spare => uptoBulkAll elems + uptoBulkAll spare + 1
  | .agg parts => uptoBulkAll parts + 1
  | .iface _ d => uptoBulk d + 1
  | .map entries => uptoBulkEntries entries + 1
  | .held _ => 1
def uptoBulkAll {H : Type} : List (DataW H) → Nat
  | [] => 0
  | d :: r => uptoBulk d + uptoBulkAll r
def uptoBulkEntries {H : Type} : List (Lit × DataW H) → Nat
  | [] => 0
  | x :: r => uptoBulkEntry x + uptoBulkEntries r
def uptoBulkEntry {H : Type} : Lit × DataW H → Nat
  | (.string bytes, d) => bytes.length + uptoBulk d + 1
  | (_, d) => uptoBulk d + 1
 end
def uptoSmall : (H : Type) → List (DataW H) → Bool := fun _ ds => decide (uptoBulkAll ds ≤ 1048576)
def OpenSpec.upto (s : _root_.Go.ChangeSpec) : _root_.Go.OpenSpec := { _root_.Go.OpenSpec.ofChange s with cond := some uptoSmall }

/-- 'mizzenlaw7.ReasmAny', WHERE WHAT IT READS IS OF BULK AT MOST 1048576: true; the input reads as it did. -/
def reasmAnyUptoRow : OpenClaim := { program := "ytkogodoaejoooaa", sum := "7daf851bd998413389b24c0de7058f56d887807e6c2d7e1b7452ca3d5f6165e3", func := "mizzen/mizzenlaw7.ReasmAny", spec := "reasmAny", inPlace := ["slices.overlaps[mizzen/api.Range]"], unfollowed := true, recurses := true, apart := false, narrowed := true }
def ReasmAnyUptoSaid : Prop := reasmAnyUptoRow.holds Try.pinned (OpenSpec.upto reasmAnySpec)

/-- 'mizzenlaw7.ReasmOther', WHERE WHAT IT READS IS OF BULK AT MOST 1048576: true; the input reads as it did. -/
def reasmOtherUptoRow : OpenClaim := { program := "ytkogodoaejoooaa", sum := "7daf851bd998413389b24c0de7058f56d887807e6c2d7e1b7452ca3d5f6165e3", func := "mizzen/mizzenlaw7.ReasmOther", spec := "reasmOther", inPlace := ["slices.overlaps[mizzen/api.Range]"], unfollowed := true, recurses := true, apart := false, narrowed := true }
def ReasmOtherUptoSaid : Prop := reasmOtherUptoRow.holds Try.pinned (OpenSpec.upto reasmOtherSpec)

/-- 'mizzenlaw7.ReasmNothing', WHERE WHAT IT READS IS OF BULK AT MOST 1048576: true; the input reads as it did. -/
def reasmNothingUptoRow : OpenClaim := { program := "ytkogodoaejoooaa", sum := "7daf851bd998413389b24c0de7058f56d887807e6c2d7e1b7452ca3d5f6165e3", func := "mizzen/mizzenlaw7.ReasmNothing", spec := "reasmNothing", inPlace := ["slices.overlaps[mizzen/api.Range]"], unfollowed := true, recurses := true, apart := false, narrowed := true }
def ReasmNothingUptoSaid : Prop := reasmNothingUptoRow.holds Try.pinned (OpenSpec.upto reasmNothingSpec)

end Rows
end Go.Proofs.Ytkogodoaejoooaa
