/-
  No cell of these rows narrows 'for every input' (looked for: loops, veiled, ifaces, maps, wideKeys, modest, calm, conditions, laid).
  DERIVED. THE GIVEN ROWS OF THIS SEAT. 3 by the template 'for every input the law returns true; each argument reads behind the call as it read before'; 0 by the template 'total and deterministic' (their statements: YtafielokhkoadaaTotals.lean).
  GIVEN WITH THE SEED: the statements are not yours to turn. If you find one false, say at which input.
  Laid BY PROGRAM, IN A SANDBOX (cutbox-rows.mjs): the forced cells as the released guide's own fill.sh prints them over the translation b636be68e267c1f3… (all of the seat's roots in one cut). By AI agents, Wed Nov 11 2026. No macro, syntax, notation, axiom, sorry.
-/
import Derived.Test.YtafielokhkoadaaChecked
import GoSem.Claim
import GoSem.ClaimJoined
import GoSem.ClaimMapViews
import Derived.JoinedTies
import Derived.KernelRfl
namespace Go.Proofs.Ytafielokhkoadaa
/- THE CELL 'sum', in the pinned program and in every row, IS THE sha256 OF THE DUMP (.gsa) THAT YtafielokhkoadaaProg.lean LOADS. Nothing in Lean hashes anything: it is a label: what it is worth is what the hold of that sum in a sandbox is worth. -/
noncomputable def Try.pinned : Pinned := { name := "ytafielokhkoadaa", sum := "b636be68e267c1f3524a62aa7dd913c29886e9fbd078aeab0362de03718405a4", checked := Try.checked }
namespace Rows
def none {H : Type} : Left H := { results := [], args := [] }

/-- 'mizzenlaw5.IvalsOrder': WHATEVER THE INPUT: true; the input reads as it did. -/
def ivalsOrderSpec : ChangeSpec := { name := "ivalsOrder", fn := fun _ => fun
  | [d1, d2, d3] => { results := [.lit (.bool true)], args := [d1, d2, d3] }
  | _ => none }
def ivalsOrderRow : OpenClaim := { program := "ytafielokhkoadaa", sum := "b636be68e267c1f3524a62aa7dd913c29886e9fbd078aeab0362de03718405a4", func := "mizzen/mizzenlaw5.IvalsOrder", spec := "ivalsOrder", inPlace := ["slices.overlaps[mizzen/api.Range]"], unfollowed := true, recurses := true, apart := false }
def IvalsOrderSaid : Prop := ivalsOrderRow.holds Try.pinned (OpenSpec.ofChange ivalsOrderSpec)

/-- ITS FALSE NEIGHBOUR: 'it returns false'. Refute it at one input. -/
def ivalsOrderWrong : ChangeSpec := { name := "ivalsOrder", fn := fun _ => fun
  | [d1, d2, d3] => { results := [.lit (.bool false)], args := [d1, d2, d3] }
  | _ => none }
def IvalsOrderWrongFalsely : Prop := ivalsOrderRow.holds Try.pinned (OpenSpec.ofChange ivalsOrderWrong)

/-- 'mizzenlaw5.IvalsParts': WHATEVER THE INPUT: true; the input reads as it did. -/
def ivalsPartsSpec : ChangeSpec := { name := "ivalsParts", fn := fun _ => fun
  | [d1, d2] => { results := [.lit (.bool true)], args := [d1, d2] }
  | _ => none }
def ivalsPartsRow : OpenClaim := { program := "ytafielokhkoadaa", sum := "b636be68e267c1f3524a62aa7dd913c29886e9fbd078aeab0362de03718405a4", func := "mizzen/mizzenlaw5.IvalsParts", spec := "ivalsParts", inPlace := ["slices.overlaps[mizzen/api.Range]"], unfollowed := true, recurses := true, apart := false }
def IvalsPartsSaid : Prop := ivalsPartsRow.holds Try.pinned (OpenSpec.ofChange ivalsPartsSpec)

/-- ITS FALSE NEIGHBOUR: 'it returns false'. Refute it at one input. -/
def ivalsPartsWrong : ChangeSpec := { name := "ivalsParts", fn := fun _ => fun
  | [d1, d2] => { results := [.lit (.bool false)], args := [d1, d2] }
  | _ => none }
def IvalsPartsWrongFalsely : Prop := ivalsPartsRow.holds Try.pinned (OpenSpec.ofChange ivalsPartsWrong)

/-- 'mizzenlaw5.IvalsNothing': WHATEVER THE INPUT: true; the input reads as it did. -/
def ivalsNothingSpec : ChangeSpec := { name := "ivalsNothing", fn := fun _ => fun
  | [d1, d2] => { results := [.lit (.bool true)], args := [d1, d2] }
  | _ => none }
def ivalsNothingRow : OpenClaim := { program := "ytafielokhkoadaa", sum := "b636be68e267c1f3524a62aa7dd913c29886e9fbd078aeab0362de03718405a4", func := "mizzen/mizzenlaw5.IvalsNothing", spec := "ivalsNothing", inPlace := ["slices.overlaps[mizzen/api.Range]"], unfollowed := true, recurses := true, apart := false }
def IvalsNothingSaid : Prop := ivalsNothingRow.holds Try.pinned (OpenSpec.ofChange ivalsNothingSpec)

/-- ITS FALSE NEIGHBOUR: 'it returns false'. Refute it at one input. -/
def ivalsNothingWrong : ChangeSpec := { name := "ivalsNothing", fn := fun _ => fun
  | [d1, d2] => { results := [.lit (.bool false)], args := [d1, d2] }
  | _ => none }
def IvalsNothingWrongFalsely : Prop := ivalsNothingRow.holds Try.pinned (OpenSpec.ofChange ivalsNothingWrong)

/- THE SECOND FORM. 'bulk': how many values and letters a reading holds, each counted each time it is reached (what is shared counts as often as it is met; a slice's spare places count too). A statement '..UptoSaid' is the law's where the arguments, and the package variables that the reading takes, are together of bulk at most 1048576: NARROWER than '..Said'. Prove '..Said' where nothing that the law and all that it calls make is longer than what came in: it says more and counts as full. Else prove '..UptoSaid'. A law counts once. -/
mutual
def uptoBulk {H : Type} : DataW H → Nat
  | .lit (.string bytes) => bytes.length + 1
  | .lit _ => 1
  | .nil => 1
  | .ptr d => uptoBulk d + 1
  | .slice elems spare => uptoBulkAll elems + uptoBulkAll spare + 1
  | .agg parts => uptoBulkAll parts + 1
  | .iface _ d => uptoBulk d + 1
  | .map entries => uptoBulkEntries entries + 1
  | .held _ => 1
def uptoBulkAll {H : Type} : List (DataW H) → Nat
  | [] => 0
  | d :: r => uptoBulk d + uptoBulkAll r
def uptoBulkEntries {H : Type} : List (Lit × DataW H) → Nat
  | [] => 0
  | x :: r => uptoBulkEntry x + uptoBulkEntries r
def uptoBulkEntry {H : Type} : Lit × DataW H → Nat
  | (.string bytes, d) => bytes.length + uptoBulk d + 1
  | (_, d) => uptoBulk d + 1
 end
def uptoSmall : (H : Type) → List (DataW H) → Bool := fun _ ds => decide (uptoBulkAll ds ≤ 1048576)
def OpenSpec.upto (s : _root_.Go.ChangeSpec) : _root_.Go.OpenSpec := { _root_.Go.OpenSpec.ofChange s with cond := some uptoSmall }

/-- 'mizzenlaw5.IvalsOrder', WHERE WHAT IT READS IS OF BULK AT MOST 1048576: true; the input reads as it did. -/
def ivalsOrderUptoRow : OpenClaim := { program := "ytafielokhkoadaa", sum := "b636be68e267c1f3524a62aa7dd913c29886e9fbd078aeab0362de03718405a4", func := "mizzen/mizzenlaw5.IvalsOrder", spec := "ivalsOrder", inPlace := ["slices.overlaps[mizzen/api.Range]"], unfollowed := true, recurses := true, apart := false, narrowed := true }
def IvalsOrderUptoSaid : Prop := ivalsOrderUptoRow.holds Try.pinned (OpenSpec.upto ivalsOrderSpec)

/-- 'mizzenlaw5.IvalsParts', WHERE WHAT IT READS IS OF BULK AT MOST 1048576: true; the input reads as it did. -/
def ivalsPartsUptoRow : OpenClaim := { program := "ytafielokhkoadaa", sum := "b636be68e267c1f3524a62aa7dd913c29886e9fbd078aeab0362de03718405a4", func := "mizzen/mizzenlaw5.IvalsParts", spec := "ivalsParts", inPlace := ["slices.overlaps[mizzen/api.Range]"], unfollowed := true, recurses := true, apart := false, narrowed := true }
def IvalsPartsUptoSaid : Prop := ivalsPartsUptoRow.holds Try.pinned (OpenSpec.upto ivalsPartsSpec)

/-- 'mizzenlaw5.IvalsNothing', WHERE WHAT IT READS IS OF BULK AT MOST 1048576: true; the input reads as it did. -/
def ivalsNothingUptoRow : OpenClaim := { program := "ytafielokhkoadaa", sum := "b636be68e267c1f3524a62aa7dd913c29886e9fbd078aeab0362de03718405a4", func := "mizzen/mizzenlaw5.IvalsNothing", spec := "ivalsNothing", inPlace := ["slices.overlaps[mizzen/api.Range]"], unfollowed := true, recurses := true, apart := false, narrowed := true }
def IvalsNothingUptoSaid : Prop := ivalsNothingUptoRow.holds Try.pinned (OpenSpec.upto ivalsNothingSpec)

end Rows
end Go.Proofs.Ytafielokhkoadaa
