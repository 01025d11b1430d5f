/-
  DERIVED. GIVEN WITH THE SEED: THE CARDS: each row of YtajhndakkaniaaaGreatDoorRows.lean that lists a variable, with what it lists TIED to the program's text (the seventh form; the later family's looks); each row that meets fmt, with fmt's text TOLD by the authors' own Lean function (tested against real Go, not proved from fmt's source: count such statements apart). THE CARD IS WHAT COUNTS. Prove the row's statement (the work); the ties are given (YtajhndakkaniaaaGreatDoorTie.lean); close each card by the builder's one call (the guide's Derived/Test/ToyasCard.lean, 'card_holds'). Laid BY PROGRAM, IN A SANDBOX (cutbox-door.mjs). By AI agents, Wed Nov 11 2026. No macro, syntax, notation, axiom, sorry.
-/
import Derived.Test.YtajhndakkaniaaaGreatDoorRows
import GoSem.ClaimSeven
namespace Go.Proofs.YtajhndakkaniaaaGreatDoor
namespace Rows

/-- THE TIED CARD OF 'mizzentop.TopLimits'. -/
def topLimitsCard : Claim7 := { stood := { row := topLimitsRow, standIns := [], harness := (true, "6d19cb48f01fa84828ff6cf0a71e385f9dc254caee202b509655d0736f902d8e"), looks := true }, kinds := [], alts := [], laidByText := true, laidKinds := [.pinned, .data, .data, .data, .data, .sentinel, .sentinel], laidTests := true, laidLooks := .later }
def TopLimitsCardSaid : Prop := Claim7.holds Tryz.pinned (.plain (OpenSpec.ofChange topLimitsSpec)) topLimitsCard

/-- THE TIED CARD OF 'mizzentop.TopGarbled'. -/
def topGarbledCard : Claim7 := { stood := { row := topGarbledRow, standIns := [], harness := (true, "6d19cb48f01fa84828ff6cf0a71e385f9dc254caee202b509655d0736f902d8e"), looks := true }, kinds := [], alts := [], laidByText := true, laidKinds := [.pinned, .data, .data, .data, .data, .sentinel, .sentinel], laidTests := true, laidLooks := .later }
def TopGarbledCardSaid : Prop := Claim7.holds Tryz.pinned (.plain (OpenSpec.ofChange topGarbledSpec)) topGarbledCard

/-- THE SECOND FORM's CARD OF 'mizzentop.TopLimits'. -/
def topLimitsUptoCard : Claim7 := { stood := { row := topLimitsUptoRow, standIns := [], harness := (true, "6d19cb48f01fa84828ff6cf0a71e385f9dc254caee202b509655d0736f902d8e"), looks := true }, kinds := [], alts := [], laidByText := true, laidKinds := [.pinned, .data, .data, .data, .data, .sentinel, .sentinel], laidTests := true, laidLooks := .later }
def TopLimitsUptoCardSaid : Prop := Claim7.holds Tryz.pinned (.plain (OpenSpec.upto topLimitsSpec)) topLimitsUptoCard

/-- THE SECOND FORM's CARD OF 'mizzentop.TopGarbled'. -/
def topGarbledUptoCard : Claim7 := { stood := { row := topGarbledUptoRow, standIns := [], harness := (true, "6d19cb48f01fa84828ff6cf0a71e385f9dc254caee202b509655d0736f902d8e"), looks := true }, kinds := [], alts := [], laidByText := true, laidKinds := [.pinned, .data, .data, .data, .data, .sentinel, .sentinel], laidTests := true, laidLooks := .later }
def TopGarbledUptoCardSaid : Prop := Claim7.holds Tryz.pinned (.plain (OpenSpec.upto topGarbledSpec)) topGarbledUptoCard
end Rows
end Go.Proofs.YtajhndakkaniaaaGreatDoor
