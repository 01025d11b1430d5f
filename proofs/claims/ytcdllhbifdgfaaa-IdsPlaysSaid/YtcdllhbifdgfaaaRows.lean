/-
  No cell of these rows narrows 'for every input' (looked for: loops, veiled, ifaces, maps, wideKeys, modest, calm, conditions, laid).
  DERIVED. THE GIVEN ROWS OF THIS SEAT. 6 by the template 'for every input the law returns true; each argument reads behind the call as it read before'; 0 by the template 'total and deterministic' (their statements: YtcdllhbifdgfaaaTotals.lean).
  GIVEN WITH THE SEED: the statements are not yours to turn. If you find one false, say at which input.
  Laid BY PROGRAM, IN A SANDBOX (cutbox-rows.mjs): the forced cells as the released guide's own fill.sh prints them over the translation cddad533130a13df… (all of the seat's roots in one cut). By AI agents, Wed Nov 11 2026. No macro, syntax, notation, axiom, sorry.
-/
import Derived.Test.YtcdllhbifdgfaaaChecked
import GoSem.Claim
import GoSem.ClaimJoined
import GoSem.ClaimMapViews
import Derived.JoinedTies
import Derived.KernelRfl
namespace Go.Proofs.Ytcdllhbifdgfaaa
/- THE CELL 'sum', in the pinned program and in every row, IS THE sha256 OF THE DUMP (.gsa) THAT YtcdllhbifdgfaaaProg.lean LOADS. Nothing in Lean hashes anything: it is a label: what it is worth is what the hold of that sum in a sandbox is worth. -/
noncomputable def Try.pinned : Pinned := { name := "ytcdllhbifdgfaaa", sum := "cddad533130a13dfd4a503a3ac25c5a24c57f0b300e44e1eb31852531ac36023", checked := Try.checked }
namespace Rows
def none {H : Type} : Left H := { results := [], args := [] }

/-- 'mizzenlaw9.IdsOrder': WHATEVER THE INPUT: true; the input reads as it did. -/
def idsOrderSpec : ChangeSpec := { name := "idsOrder", fn := fun _ => fun
  | [d1, d2] => { results := [.lit (.bool true)], args := [d1, d2] }
  | _ => none }
def idsOrderRow : OpenClaim := { program := "ytcdllhbifdgfaaa", sum := "cddad533130a13dfd4a503a3ac25c5a24c57f0b300e44e1eb31852531ac36023", func := "mizzen/mizzenlaw9.IdsOrder", spec := "idsOrder", inPlace := ["slices.overlaps[uint64]"], apart := false }
def IdsOrderSaid : Prop := idsOrderRow.holds Try.pinned (OpenSpec.ofChange idsOrderSpec)

/-- ITS FALSE NEIGHBOUR: 'it returns false'. Refute it at one input. -/
def idsOrderWrong : ChangeSpec := { name := "idsOrder", fn := fun _ => fun
  | [d1, d2] => { results := [.lit (.bool false)], args := [d1, d2] }
  | _ => none }
def IdsOrderWrongFalsely : Prop := idsOrderRow.holds Try.pinned (OpenSpec.ofChange idsOrderWrong)

/-- 'mizzenlaw9.IdsGives': WHATEVER THE INPUT: true; the input reads as it did. -/
def idsGivesSpec : ChangeSpec := { name := "idsGives", fn := fun _ => fun
  | [d1, d2] => { results := [.lit (.bool true)], args := [d1, d2] }
  | _ => none }
def idsGivesRow : OpenClaim := { program := "ytcdllhbifdgfaaa", sum := "cddad533130a13dfd4a503a3ac25c5a24c57f0b300e44e1eb31852531ac36023", func := "mizzen/mizzenlaw9.IdsGives", spec := "idsGives", inPlace := ["slices.overlaps[uint64]"], apart := false }
def IdsGivesSaid : Prop := idsGivesRow.holds Try.pinned (OpenSpec.ofChange idsGivesSpec)

/-- ITS FALSE NEIGHBOUR: 'it returns false'. Refute it at one input. -/
def idsGivesWrong : ChangeSpec := { name := "idsGives", fn := fun _ => fun
  | [d1, d2] => { results := [.lit (.bool false)], args := [d1, d2] }
  | _ => none }
def IdsGivesWrongFalsely : Prop := idsGivesRow.holds Try.pinned (OpenSpec.ofChange idsGivesWrong)

/-- 'mizzenlaw9.IdsPlays': WHATEVER THE INPUT: true; the input reads as it did. -/
def idsPlaysSpec : ChangeSpec := { name := "idsPlays", fn := fun _ => fun
  | [d1, d2, d3] => { results := [.lit (.bool true)], args := [d1, d2, d3] }
  | _ => none }
def idsPlaysRow : OpenClaim := { program := "ytcdllhbifdgfaaa", sum := "cddad533130a13dfd4a503a3ac25c5a24c57f0b300e44e1eb31852531ac36023", func := "mizzen/mizzenlaw9.IdsPlays", spec := "idsPlays", inPlace := ["slices.overlaps[uint64]"], apart := false }
def IdsPlaysSaid : Prop := idsPlaysRow.holds Try.pinned (OpenSpec.ofChange idsPlaysSpec)

/-- ITS FALSE NEIGHBOUR: 'it returns false'. Refute it at one input. -/
def idsPlaysWrong : ChangeSpec := { name := "idsPlays", fn := fun _ => fun
  | [d1, d2, d3] => { results := [.lit (.bool false)], args := [d1, d2, d3] }
  | _ => none }
def IdsPlaysWrongFalsely : Prop := idsPlaysRow.holds Try.pinned (OpenSpec.ofChange idsPlaysWrong)

/-- 'mizzenlaw9.IdsEver': WHATEVER THE INPUT: true; the input reads as it did. -/
def idsEverSpec : ChangeSpec := { name := "idsEver", fn := fun _ => fun
  | [d1, d2, d3] => { results := [.lit (.bool true)], args := [d1, d2, d3] }
  | _ => none }
def idsEverRow : OpenClaim := { program := "ytcdllhbifdgfaaa", sum := "cddad533130a13dfd4a503a3ac25c5a24c57f0b300e44e1eb31852531ac36023", func := "mizzen/mizzenlaw9.IdsEver", spec := "idsEver", inPlace := ["slices.overlaps[uint64]"], apart := false }
def IdsEverSaid : Prop := idsEverRow.holds Try.pinned (OpenSpec.ofChange idsEverSpec)

/-- ITS FALSE NEIGHBOUR: 'it returns false'. Refute it at one input. -/
def idsEverWrong : ChangeSpec := { name := "idsEver", fn := fun _ => fun
  | [d1, d2, d3] => { results := [.lit (.bool false)], args := [d1, d2, d3] }
  | _ => none }
def IdsEverWrongFalsely : Prop := idsEverRow.holds Try.pinned (OpenSpec.ofChange idsEverWrong)

/-- 'mizzenlaw9.IdsRetires': WHATEVER THE INPUT: true; the input reads as it did. -/
def idsRetiresSpec : ChangeSpec := { name := "idsRetires", fn := fun _ => fun
  | [d1, d2, d3] => { results := [.lit (.bool true)], args := [d1, d2, d3] }
  | _ => none }
def idsRetiresRow : OpenClaim := { program := "ytcdllhbifdgfaaa", sum := "cddad533130a13dfd4a503a3ac25c5a24c57f0b300e44e1eb31852531ac36023", func := "mizzen/mizzenlaw9.IdsRetires", spec := "idsRetires", inPlace := ["slices.overlaps[uint64]"], apart := false }
def IdsRetiresSaid : Prop := idsRetiresRow.holds Try.pinned (OpenSpec.ofChange idsRetiresSpec)

/-- ITS FALSE NEIGHBOUR: 'it returns false'. Refute it at one input. -/
def idsRetiresWrong : ChangeSpec := { name := "idsRetires", fn := fun _ => fun
  | [d1, d2, d3] => { results := [.lit (.bool false)], args := [d1, d2, d3] }
  | _ => none }
def IdsRetiresWrongFalsely : Prop := idsRetiresRow.holds Try.pinned (OpenSpec.ofChange idsRetiresWrong)

/-- 'mizzenlaw9.IdsLowest': WHATEVER THE INPUT: true; the input reads as it did. -/
def idsLowestSpec : ChangeSpec := { name := "idsLowest", fn := fun _ => fun
  | [d1, d2, d3] => { results := [.lit (.bool true)], args := [d1, d2, d3] }
  | _ => none }
def idsLowestRow : OpenClaim := { program := "ytcdllhbifdgfaaa", sum := "cddad533130a13dfd4a503a3ac25c5a24c57f0b300e44e1eb31852531ac36023", func := "mizzen/mizzenlaw9.IdsLowest", spec := "idsLowest", inPlace := ["slices.overlaps[uint64]"], apart := false }
def IdsLowestSaid : Prop := idsLowestRow.holds Try.pinned (OpenSpec.ofChange idsLowestSpec)

/-- ITS FALSE NEIGHBOUR: 'it returns false'. Refute it at one input. -/
def idsLowestWrong : ChangeSpec := { name := "idsLowest", fn := fun _ => fun
  | [d1, d2, d3] => { results := [.lit (.bool false)], args := [d1, d2, d3] }
  | _ => none }
def IdsLowestWrongFalsely : Prop := idsLowestRow.holds Try.pinned (OpenSpec.ofChange idsLowestWrong)

/- THE SECOND FORM. 'bulk': how many values and letters a reading holds, each counted each time it is reached (what is shared counts as often as it is met; a slice's spare places count too). A statement '..UptoSaid' is the law's where the arguments, and the package variables that the reading takes, are together of bulk at most 1048576: NARROWER than '..Said'. Prove '..Said' where nothing that the law and all that it calls make is longer than what came in: it says more and counts as full. Else prove '..UptoSaid'. A law counts once. -/
mutual
def uptoBulk {H : Type} : DataW H → Nat
  | .lit (.string bytes) => bytes.length + 1
  | .lit _ => 1
  | .nil => 1
  | .ptr d => uptoBulk d + 1
  | .slice elems spare => uptoBulkAll elems + uptoBulkAll spare + 1
  | .agg parts => uptoBulkAll parts + 1
  | .iface _ d => uptoBulk d + 1
  | .map entries => uptoBulkEntries entries + 1
  | .held _ => 1
def uptoBulkAll {H : Type} : List (DataW H) → Nat
  | [] => 0
  | d :: r => uptoBulk d + uptoBulkAll r
def uptoBulkEntries {H : Type} : List (Lit × DataW H) → Nat
  | [] => 0
  | x :: r => uptoBulkEntry x + uptoBulkEntries r
def uptoBulkEntry {H : Type} : Lit × DataW H → Nat
  | (.string bytes, d) => bytes.length + uptoBulk d + 1
  | (_, d) => uptoBulk d + 1
 end
def uptoSmall : (H : Type) → List (DataW H) → Bool := fun _ ds => decide (uptoBulkAll ds ≤ 1048576)
def OpenSpec.upto (s : _root_.Go.ChangeSpec) : _root_.Go.OpenSpec := { _root_.Go.OpenSpec.ofChange s with cond := some uptoSmall }

/-- 'mizzenlaw9.IdsOrder', WHERE WHAT IT READS IS OF BULK AT MOST 1048576: true; the input reads as it did. -/
def idsOrderUptoRow : OpenClaim := { program := "ytcdllhbifdgfaaa", sum := "cddad533130a13dfd4a503a3ac25c5a24c57f0b300e44e1eb31852531ac36023", func := "mizzen/mizzenlaw9.IdsOrder", spec := "idsOrder", inPlace := ["slices.overlaps[uint64]"], apart := false, narrowed := true }
def IdsOrderUptoSaid : Prop := idsOrderUptoRow.holds Try.pinned (OpenSpec.upto idsOrderSpec)

/-- 'mizzenlaw9.IdsGives', WHERE WHAT IT READS IS OF BULK AT MOST 1048576: true; the input reads as it did. -/
def idsGivesUptoRow : OpenClaim := { program := "ytcdllhbifdgfaaa", sum := "cddad533130a13dfd4a503a3ac25c5a24c57f0b300e44e1eb31852531ac36023", func := "mizzen/mizzenlaw9.IdsGives", spec := "idsGives", inPlace := ["slices.overlaps[uint64]"], apart := false, narrowed := true }
def IdsGivesUptoSaid : Prop := idsGivesUptoRow.holds Try.pinned (OpenSpec.upto idsGivesSpec)

/-- 'mizzenlaw9.IdsPlays', WHERE WHAT IT READS IS OF BULK AT MOST 1048576: true; the input reads as it did. -/
def idsPlaysUptoRow : OpenClaim := { program := "ytcdllhbifdgfaaa", sum := "cddad533130a13dfd4a503a3ac25c5a24c57f0b300e44e1eb31852531ac36023", func := "mizzen/mizzenlaw9.IdsPlays", spec := "idsPlays", inPlace := ["slices.overlaps[uint64]"], apart := false, narrowed := true }
def IdsPlaysUptoSaid : Prop := idsPlaysUptoRow.holds Try.pinned (OpenSpec.upto idsPlaysSpec)

/-- 'mizzenlaw9.IdsEver', WHERE WHAT IT READS IS OF BULK AT MOST 1048576: true; the input reads as it did. -/
def idsEverUptoRow : OpenClaim := { program := "ytcdllhbifdgfaaa", sum := "cddad533130a13dfd4a503a3ac25c5a24c57f0b300e44e1eb31852531ac36023", func := "mizzen/mizzenlaw9.IdsEver", spec := "idsEver", inPlace := ["slices.overlaps[uint64]"], apart := false, narrowed := true }
def IdsEverUptoSaid : Prop := idsEverUptoRow.holds Try.pinned (OpenSpec.upto idsEverSpec)

/-- 'mizzenlaw9.IdsRetires', WHERE WHAT IT READS IS OF BULK AT MOST 1048576: true; the input reads as it did. -/
def idsRetiresUptoRow : OpenClaim := { program := "ytcdllhbifdgfaaa", sum := "cddad533130a13dfd4a503a3ac25c5a24c57f0b300e44e1eb31852531ac36023", func := "mizzen/mizzenlaw9.IdsRetires", spec := "idsRetires", inPlace := ["slices.overlaps[uint64]"], apart := false, narrowed := true }
def IdsRetiresUptoSaid : Prop := idsRetiresUptoRow.holds Try.pinned (OpenSpec.upto idsRetiresSpec)

/-- 'mizzenlaw9.IdsLowest', WHERE WHAT IT READS IS OF BULK AT MOST 1048576: true; the input reads as it did. -/
def idsLowestUptoRow : OpenClaim := { program := "ytcdllhbifdgfaaa", sum := "cddad533130a13dfd4a503a3ac25c5a24c57f0b300e44e1eb31852531ac36023", func := "mizzen/mizzenlaw9.IdsLowest", spec := "idsLowest", inPlace := ["slices.overlaps[uint64]"], apart := false, narrowed := true }
def IdsLowestUptoSaid : Prop := idsLowestUptoRow.holds Try.pinned (OpenSpec.upto idsLowestSpec)

end Rows
end Go.Proofs.Ytcdllhbifdgfaaa
