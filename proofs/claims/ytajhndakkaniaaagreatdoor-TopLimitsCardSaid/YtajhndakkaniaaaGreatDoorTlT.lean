/- TopLimits: no goroutine is started (no body of the whole translation starts one). -/
import Derived.Test.YtajhndakkaniaaaGreatDoorRows
import Derived.SevenTiedAt
namespace Go.Proofs.YtajhndakkaniaaaGreatDoor.topLimits
open Go
theorem noGo : Tryz.prog.funcs.any Func.goes = false := by kernel_rfl
theorem goes_none {P : Program} (h : P.funcs.any Func.goes = false) (f : FuncId) : P.goes f = false := by
  have hx : ∀ g : Nat, (P.funcs[g]?).any Func.goes = false := fun g => by
    cases hg : P.funcs[g]? with
    | none => rfl
    | some fn =>
      show fn.goes = false
      obtain ⟨hi, rfl⟩ := Array.getElem?_eq_some_iff.1 hg
      have := Array.any_eq_false.1 h g hi
      simpa using this
  unfold Program.goes
  rw [h, Bool.and_false, Bool.or_false]
  simp [hx]
theorem goesAt_none {P : Program} (h : P.funcs.any Func.goes = false) (s : String) : P.goesAt .entering s = false := by
  unfold Program.goesAt Program.goesFrom
  cases P.funcNamed s with
  | none => rfl
  | some f => simp [goes_none h f]
theorem goes : false = Rows.topLimitsRow.goesBy Tryz.pinned.checked.prog := (goesAt_none noGo _).symm
end Go.Proofs.YtajhndakkaniaaaGreatDoor.topLimits
