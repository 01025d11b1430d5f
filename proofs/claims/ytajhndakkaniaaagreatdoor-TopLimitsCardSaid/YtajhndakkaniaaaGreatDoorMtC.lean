/- The listed variables hold what the row says. -/
import Derived.Test.YtajhndakkaniaaaGreatDoorMtA
namespace Go.Proofs.YtajhndakkaniaaaGreatDoor
open Go
theorem t_h1 : ∀ os tape, (DataW.laidRun Tryz.prog (varsWorld Tryz.prog 400 (varsId Tryz.prog) os tape).memory 8 (tlaid.map (·.1))).map (·.1) = some tlaid := fun _ _ => by kernel_rfl
end Go.Proofs.YtajhndakkaniaaaGreatDoor
