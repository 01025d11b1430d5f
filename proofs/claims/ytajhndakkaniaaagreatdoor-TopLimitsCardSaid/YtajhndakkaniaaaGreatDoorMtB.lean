/- What lays the listed variables ends. -/
import Derived.Test.YtajhndakkaniaaaGreatDoorMtA
namespace Go.Proofs.YtajhndakkaniaaaGreatDoor
open Go
theorem t_hd : ∀ os tape, varsDone Tryz.prog 400 (varsId Tryz.prog) os tape = true := fun _ _ => by kernel_rfl
end Go.Proofs.YtajhndakkaniaaaGreatDoor
