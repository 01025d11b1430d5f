/-
  No cell of these rows narrows 'for every input' (looked for: loops, veiled, ifaces, maps, wideKeys, modest, calm, conditions, laid).
  DERIVED. THE GIVEN ROWS OF THIS SEAT. 5 by the template 'for every input the law returns true; each argument reads behind the call as it read before'; 0 by the template 'total and deterministic' (their statements: YthgkminjhpaakaaTotals.lean).
  GIVEN WITH THE SEED: the statements are not yours to turn. If you find one false, say at which input.
  Laid BY PROGRAM, IN A SANDBOX (cutbox-rows.mjs): the forced cells as the released guide's own fill.sh prints them over the translation 29e39ee99c46f18d… (all of the seat's roots in one cut). By AI agents, Wed Nov 11 2026. No macro, syntax, notation, axiom, sorry.
-/
import Derived.Test.YthgkminjhpaakaaChecked
import GoSem.Claim
import GoSem.ClaimJoined
import GoSem.ClaimMapViews
import Derived.JoinedTies
import Derived.KernelRfl
namespace Go.Proofs.Ythgkminjhpaakaa
/- THE CELL 'sum', in the pinned program and in every row, IS THE sha256 OF THE DUMP (.gsa) THAT YthgkminjhpaakaaProg.lean LOADS. Nothing in Lean hashes anything: it is a label: what it is worth is what the hold of that sum in a sandbox is worth. -/
noncomputable def Try.pinned : Pinned := { name := "ythgkminjhpaakaa", sum := "29e39ee99c46f18d2b504b0ab829de1fe0b7db6addb7524861a39acdb76ec8e3", checked := Try.checked }
namespace Rows
def none {H : Type} : Left H := { results := [], args := [] }

/-- 'mizzenlaw13.PortCredits': WHATEVER THE INPUT: true; the input reads as it did. -/
def portCreditsSpec : ChangeSpec := { name := "portCredits", fn := fun _ => fun
  | [d1, d2, d3] => { results := [.lit (.bool true)], args := [d1, d2, d3] }
  | _ => none }
def portCreditsRow : OpenClaim := { program := "ythgkminjhpaakaa", sum := "29e39ee99c46f18d2b504b0ab829de1fe0b7db6addb7524861a39acdb76ec8e3", func := "mizzen/mizzenlaw13.PortCredits", spec := "portCredits", unfollowed := true, recurses := true, apart := false }
def PortCreditsSaid : Prop := portCreditsRow.holds Try.pinned (OpenSpec.ofChange portCreditsSpec)

/-- ITS FALSE NEIGHBOUR: 'it returns false'. Refute it at one input. -/
def portCreditsWrong : ChangeSpec := { name := "portCredits", fn := fun _ => fun
  | [d1, d2, d3] => { results := [.lit (.bool false)], args := [d1, d2, d3] }
  | _ => none }
def PortCreditsWrongFalsely : Prop := portCreditsRow.holds Try.pinned (OpenSpec.ofChange portCreditsWrong)

/-- 'mizzenlaw13.PortHighest': WHATEVER THE INPUT: true; the input reads as it did. -/
def portHighestSpec : ChangeSpec := { name := "portHighest", fn := fun _ => fun
  | [d1, d2] => { results := [.lit (.bool true)], args := [d1, d2] }
  | _ => none }
def portHighestRow : OpenClaim := { program := "ythgkminjhpaakaa", sum := "29e39ee99c46f18d2b504b0ab829de1fe0b7db6addb7524861a39acdb76ec8e3", func := "mizzen/mizzenlaw13.PortHighest", spec := "portHighest", unfollowed := true, recurses := true, apart := false }
def PortHighestSaid : Prop := portHighestRow.holds Try.pinned (OpenSpec.ofChange portHighestSpec)

/-- ITS FALSE NEIGHBOUR: 'it returns false'. Refute it at one input. -/
def portHighestWrong : ChangeSpec := { name := "portHighest", fn := fun _ => fun
  | [d1, d2] => { results := [.lit (.bool false)], args := [d1, d2] }
  | _ => none }
def PortHighestWrongFalsely : Prop := portHighestRow.holds Try.pinned (OpenSpec.ofChange portHighestWrong)

/-- 'mizzenlaw13.PortTrims': WHATEVER THE INPUT: true; the input reads as it did. -/
def portTrimsSpec : ChangeSpec := { name := "portTrims", fn := fun _ => fun
  | [d1, d2, d3, d4] => { results := [.lit (.bool true)], args := [d1, d2, d3, d4] }
  | _ => none }
def portTrimsRow : OpenClaim := { program := "ythgkminjhpaakaa", sum := "29e39ee99c46f18d2b504b0ab829de1fe0b7db6addb7524861a39acdb76ec8e3", func := "mizzen/mizzenlaw13.PortTrims", spec := "portTrims", unfollowed := true, recurses := true, apart := false }
def PortTrimsSaid : Prop := portTrimsRow.holds Try.pinned (OpenSpec.ofChange portTrimsSpec)

/-- ITS FALSE NEIGHBOUR: 'it returns false'. Refute it at one input. -/
def portTrimsWrong : ChangeSpec := { name := "portTrims", fn := fun _ => fun
  | [d1, d2, d3, d4] => { results := [.lit (.bool false)], args := [d1, d2, d3, d4] }
  | _ => none }
def PortTrimsWrongFalsely : Prop := portTrimsRow.holds Try.pinned (OpenSpec.ofChange portTrimsWrong)

/-- 'mizzenlaw13.PortPlays': WHATEVER THE INPUT: true; the input reads as it did. -/
def portPlaysSpec : ChangeSpec := { name := "portPlays", fn := fun _ => fun
  | [d1, d2, d3, d4] => { results := [.lit (.bool true)], args := [d1, d2, d3, d4] }
  | _ => none }
def portPlaysRow : OpenClaim := { program := "ythgkminjhpaakaa", sum := "29e39ee99c46f18d2b504b0ab829de1fe0b7db6addb7524861a39acdb76ec8e3", func := "mizzen/mizzenlaw13.PortPlays", spec := "portPlays", unfollowed := true, recurses := true, apart := false }
def PortPlaysSaid : Prop := portPlaysRow.holds Try.pinned (OpenSpec.ofChange portPlaysSpec)

/-- ITS FALSE NEIGHBOUR: 'it returns false'. Refute it at one input. -/
def portPlaysWrong : ChangeSpec := { name := "portPlays", fn := fun _ => fun
  | [d1, d2, d3, d4] => { results := [.lit (.bool false)], args := [d1, d2, d3, d4] }
  | _ => none }
def PortPlaysWrongFalsely : Prop := portPlaysRow.holds Try.pinned (OpenSpec.ofChange portPlaysWrong)

/-- 'mizzenlaw13.PortNothing': WHATEVER THE INPUT: true; the input reads as it did. -/
def portNothingSpec : ChangeSpec := { name := "portNothing", fn := fun _ => fun
  | [d] => { results := [.lit (.bool true)], args := [d] }
  | _ => none }
def portNothingRow : OpenClaim := { program := "ythgkminjhpaakaa", sum := "29e39ee99c46f18d2b504b0ab829de1fe0b7db6addb7524861a39acdb76ec8e3", func := "mizzen/mizzenlaw13.PortNothing", spec := "portNothing", unfollowed := true, recurses := true, apart := false }
def PortNothingSaid : Prop := portNothingRow.holds Try.pinned (OpenSpec.ofChange portNothingSpec)

/-- ITS FALSE NEIGHBOUR: 'it returns false'. Refute it at one input. -/
def portNothingWrong : ChangeSpec := { name := "portNothing", fn := fun _ => fun
  | [d] => { results := [.lit (.bool false)], args := [d] }
  | _ => none }
def PortNothingWrongFalsely : Prop := portNothingRow.holds Try.pinned (OpenSpec.ofChange portNothingWrong)

/- THE SECOND FORM. 'bulk': how many values and letters a reading holds, each counted each time it is reached (what is shared counts as often as it is met; a slice's spare places count too). A statement '..UptoSaid' is the law's where the arguments, and the package variables that the reading takes, are together of bulk at most 1048576: NARROWER than '..Said'. Prove '..Said' where nothing that the law and all that it calls make is longer than what came in: it says more and counts as full. Else prove '..UptoSaid'. A law counts once. -/
mutual
def uptoBulk {H : Type} : DataW H → Nat
  | .lit (.string bytes) => bytes.length + 1
  | .lit _ => 1
  | .nil => 1
  | .ptr d => uptoBulk d + 1
  | .slice elems spare => uptoBulkAll elems + uptoBulkAll spare + 1
  | .agg parts => uptoBulkAll parts + 1
  | .iface _ d => uptoBulk d + 1
  | .map entries => uptoBulkEntries entries + 1
  | .held _ => 1
def uptoBulkAll {H : Type} : List (DataW H) → Nat
  | [] => 0
  | d :: r => uptoBulk d + uptoBulkAll r
def uptoBulkEntries {H : Type} : List (Lit × DataW H) → Nat
  | [] => 0
  | x :: r => uptoBulkEntry x + uptoBulkEntries r
def uptoBulkEntry {H : Type} : Lit × DataW H → Nat
  | (.string bytes, d) => bytes.length + uptoBulk d + 1
  | (_, d) => uptoBulk d + 1
 end
def uptoSmall : (H : Type) → List (DataW H) → Bool := fun _ ds => decide (uptoBulkAll ds ≤ 1048576)
def OpenSpec.upto (s : _root_.Go.ChangeSpec) : _root_.Go.OpenSpec := { _root_.Go.OpenSpec.ofChange s with cond := some uptoSmall }

/-- 'mizzenlaw13.PortCredits', WHERE WHAT IT READS IS OF BULK AT MOST 1048576: true; the input reads as it did. -/
def portCreditsUptoRow : OpenClaim := { program := "ythgkminjhpaakaa", sum := "29e39ee99c46f18d2b504b0ab829de1fe0b7db6addb7524861a39acdb76ec8e3", func := "mizzen/mizzenlaw13.PortCredits", spec := "portCredits", unfollowed := true, recurses := true, apart := false, narrowed := true }
def PortCreditsUptoSaid : Prop := portCreditsUptoRow.holds Try.pinned (OpenSpec.upto portCreditsSpec)

/-- 'mizzenlaw13.PortHighest', WHERE WHAT IT READS IS OF BULK AT MOST 1048576: true; the input reads as it did. -/
def portHighestUptoRow : OpenClaim := { program := "ythgkminjhpaakaa", sum := "29e39ee99c46f18d2b504b0ab829de1fe0b7db6addb7524861a39acdb76ec8e3", func := "mizzen/mizzenlaw13.PortHighest", spec := "portHighest", unfollowed := true, recurses := true, apart := false, narrowed := true }
def PortHighestUptoSaid : Prop := portHighestUptoRow.holds Try.pinned (OpenSpec.upto portHighestSpec)

/-- 'mizzenlaw13.PortTrims', WHERE WHAT IT READS IS OF BULK AT MOST 1048576: true; the input reads as it did. -/
def portTrimsUptoRow : OpenClaim := { program := "ythgkminjhpaakaa", sum := "29e39ee99c46f18d2b504b0ab829de1fe0b7db6addb7524861a39acdb76ec8e3", func := "mizzen/mizzenlaw13.PortTrims", spec := "portTrims", unfollowed := true, recurses := true, apart := false, narrowed := true }
def PortTrimsUptoSaid : Prop := portTrimsUptoRow.holds Try.pinned (OpenSpec.upto portTrimsSpec)

/-- 'mizzenlaw13.PortPlays', WHERE WHAT IT READS IS OF BULK AT MOST 1048576: true; the input reads as it did. -/
def portPlaysUptoRow : OpenClaim := { program := "ythgkminjhpaakaa", sum := "29e39ee99c46f18d2b504b0ab829de1fe0b7db6addb7524861a39acdb76ec8e3", func := "mizzen/mizzenlaw13.PortPlays", spec := "portPlays", unfollowed := true, recurses := true, apart := false, narrowed := true }
def PortPlaysUptoSaid : Prop := portPlaysUptoRow.holds Try.pinned (OpenSpec.upto portPlaysSpec)

/-- 'mizzenlaw13.PortNothing', WHERE WHAT IT READS IS OF BULK AT MOST 1048576: true; the input reads as it did. -/
def portNothingUptoRow : OpenClaim := { program := "ythgkminjhpaakaa", sum := "29e39ee99c46f18d2b504b0ab829de1fe0b7db6addb7524861a39acdb76ec8e3", func := "mizzen/mizzenlaw13.PortNothing", spec := "portNothing", unfollowed := true, recurses := true, apart := false, narrowed := true }
def PortNothingUptoSaid : Prop := portNothingUptoRow.holds Try.pinned (OpenSpec.upto portNothingSpec)

end Rows
end Go.Proofs.Ythgkminjhpaakaa
