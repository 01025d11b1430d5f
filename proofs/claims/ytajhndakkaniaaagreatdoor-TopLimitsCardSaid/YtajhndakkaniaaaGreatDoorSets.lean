/- Many cells of one block stored one behind the other. General lemmas; no program in sight. -/
import Derived.Test.YtajhndakkaniaaaGreatDoorSlices
namespace Go.Proofs.YtajhndakkaniaaaGreatDoor
open Go.RowKit

theorem Ob.sets {w : World} {X : Nat} {cs : Array Value} {T : TypeId} (h : Ob w X cs T) (vs : List Value) (hl : vs.length = cs.size) : Ob (w.setCells X 0 vs) X vs.toArray T := by
  have hr : Rw w X cs.toList T := ⟨cs, h, rfl⟩
  have h2 := hr.sets vs 0 _ _ (by simp [hl])
  obtain ⟨cur, h3, h4⟩ := h2
  have h5 : cur = vs.toArray := by
    apply Array.ext'
    rw [h4]
    simp [hl]
  rw [h5] at h3
  exact h3
theorem Below.sets {w0 w : World} {B X : Nat} (h : Below B w0 w) (hX : B ≤ X) (hB : B ≤ w.heap.size) (vs : List Value) : Below B w0 (w.setCells X 0 vs) :=
  h.trans ((Kept.sets vs 0 w (Kept.refl (Only X) w)).belowAt hB (fun b hb => by rw [show b = X from hb]; exact hX))
theorem Kept.setsO {w0 w : World} {M : Nat → Prop} {X : Nat} (h : Kept M w0 w) (hX : M X) (vs : List Value) : Kept M w0 (w.setCells X 0 vs) :=
  h.trans ((Kept.sets vs 0 w (Kept.refl (Only X) w)).mono (fun b _ hb => by rw [show b = X from hb]; exact hX))
theorem Kept.setsN {w0 w : World} {M : Nat → Prop} {X : Nat} (h : Kept M w0 w) (hX : w0.heap.size ≤ X) (vs : List Value) : Kept M w0 (w.setCells X 0 vs) := by
  have key : ∀ (vs : List Value) (o : Nat) (w : World), Kept M w0 w → Kept M w0 (w.setCells X o vs) := by
    intro vs
    induction vs with
    | nil => intro o w h; exact h
    | cons v r ih => intro o w h; exact ih (o + 1) _ (h.set ⟨X, o, none⟩ v (fun hh => absurd hh (Nat.not_lt.2 hX)))
  exact key vs 0 w h
end Go.Proofs.YtajhndakkaniaaaGreatDoor
