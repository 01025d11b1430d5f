/- TopLimits: a message that is too big, one that finds a full table and one for which no number is left are refused, and nothing is changed: the law returns true and leaves its arguments as they were. The row lists variables: the witness lays them. -/
import Derived.Test.YtajhndakkaniaaaGreatDoorRows
import Derived.Test.YtajhndakkaniaaaGreatDoorFrame
import Derived.ProofKit
import Derived.OpenShut
import Derived.LaidMore
import Derived.Lay
import Derived.Stop.Joined
namespace Go.Proofs.YtajhndakkaniaaaGreatDoor.topLimits
open Go.ChangeShapes Go.WideShapes Go.ChangeAt Go.RowKit Go.Joins
set_option linter.unusedVariables false

noncomputable abbrev L : List (String × DataW Unit) := Rows.topLimitsRow.laid
theorem own : ownKnob Tryz.prog.godebug = none := by kernel_rfl
theorem laidOut : laidOutB Tryz.prog = true := by kernel_rfl
theorem params_ok : ∀ t ∈ Tryz.f3.params.toList, Tryz.prog.readableRec t = true ∧ t < Tryz.prog.types.size := by
  rw [Tryz.params3]; intro t ht; have ht : t ∈ [3, 3, 22, 3] := ht; simp only [List.mem_cons, List.not_mem_nil, or_false] at ht; rcases ht with rfl | rfl | rfl | rfl <;> exact ⟨by kernel_rfl, of_decide_eq_true (by kernel_rfl)⟩
noncomputable abbrev wit (os : Os) : World := World.laidAll Tryz.prog os L
abbrev wargs : Array Value := #[.int .i64 0, .int .i64 0, .int .u64 0, .int .i64 0]
theorem fits (os : Os) : (World.holding Tryz.prog os ⟨#[], #[], []⟩).layFits Tryz.prog L [] = true := by kernel_rfl
theorem ifaces (os : Os) : (World.holding Tryz.prog os ⟨#[], #[], []⟩).layIfaces Tryz.prog L (wit os) = true := by kernel_rfl
theorem shaped (os : Os) : ((wit os).forCall (fun _ _ => 0) ⟨#[], wargs, []⟩).Shaped Tryz.prog := World.shaped_of_ZipB (by kernel_rfl) (by kernel_rfl)
end Go.Proofs.YtajhndakkaniaaaGreatDoor.topLimits
