/- What the document fixes comes true: a closed run, evaluated. -/
import Derived.Test.YtgfkgbampoocdaaGreatDoorTopAw
namespace Go.Proofs.YtgfkgbampoocdaaGreatDoor
open Go.RowKit

namespace Ev
noncomputable def isT : Option (TV × Hp) → Bool
  | some (.s (.c (.k (.bool true))), _) => true
  | _ => false
theorem isT_ok {r : Option (TV × Hp)} (h : isT r = true) : ∃ H, r = some (.s (.c (.k (.bool true))), H) := by
  unfold isT at h
  split at h
  · exact ⟨_, rfl⟩
  · cases h
set_option maxRecDepth 100000 in
theorem awake_run : isT (ev 60 4 [] ⟨.nil, .z⟩) = true := by kernel_rfl
theorem sr_nil (P : Program) (B : Nat) (w : World) : SR P B (fun _ => none) ⟨.nil, .z⟩ w := by
  have hn : ∀ x o, (Hp.mk Tr.nil Bn.z).t.get x ≠ some o := fun x o h => by
    rw [show (Hp.mk Tr.nil Bn.z).t.get x = none from Tr.get_nil x] at h
    cases h
  exact ⟨fun x o h => absurd h (hn x o), fun x _ o _ _ _ h => absurd h (hn x o), fun x l h => by cases h⟩
end Ev
theorem awake_any (w : World) : Calls Tryz.prog 4 #[] w fun e w' => e = .returned (.bool true) ∧ Below w.heap.size w w' := by
  obtain ⟨H, h⟩ := Ev.isT_ok Ev.awake_run
  refine ((Ev.ev_ok w.heap.size 60 _ _ _ _ _ h).2 (fun _ => none) #[] w rfl (Ev.sr_nil _ _ _) (Nat.le_refl _)).mono ?_
  rintro e w' ⟨u, φ', rfl, hu, hx⟩
  cases hu
  refine ⟨rfl, hx.os, hx.tape, hx.output, hx.size, fun b hb => hx.frame b hb fun x o l ho => ?_⟩
  rw [show (Ev.Hp.mk Ev.Tr.nil Ev.Bn.z).t.get x = none from Ev.Tr.get_nil x] at ho
  cases ho
end Go.Proofs.YtgfkgbampoocdaaGreatDoor
