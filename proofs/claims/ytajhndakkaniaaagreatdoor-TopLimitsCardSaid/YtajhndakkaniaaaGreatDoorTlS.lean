/- TopLimits: the row's statement, joined. -/
import Derived.Test.YtajhndakkaniaaaGreatDoorTlO
import Derived.Test.YtajhndakkaniaaaGreatDoorTlQ
import Derived.Test.YtajhndakkaniaaaGreatDoorCards
import Derived.Test.YtajhndakkaniaaaGreatDoorMtE
import Derived.Test.YtajhndakkaniaaaGreatDoorTlT
import Derived.SevenTiedAt
namespace Go.Proofs.YtajhndakkaniaaaGreatDoor.topLimits
open Go Go.ChangeShapes Go.WideShapes Go.ChangeAt Go.RowKit Go.Joins
set_option linter.unusedVariables false
set_option maxRecDepth 100000 in
theorem closed : joinedFacts Tryz.pinned.checked.prog 3 Tryz.f3 Rows.topLimitsSpec Rows.topLimitsRow = true := by
  unfold joinedFacts
  exact and_t (and_t (and_t (and_t (and_t (and_t (and_t (and_t (and_t (and_t (and_t (and_t (and_t (and_t (and_t (and_t (and_t (and_t (and_t (and_t (and_t (and_t (and_t (and_t (and_t (and_t (and_t (and_t (and_t (and_t (and_t j0 j1) j2) j3) j4) j5) j6) j7) j8) j9) j10) j11) j12) j13) j14) j15) j16) j17) j18) j19) j20) j21) j22) j23) j24) j25) j26) j27) j28) j29) j30) j31
theorem fnamed : Tryz.pinned.checked.prog.funcNamed Rows.topLimitsRow.func = some 3 := by kernel_rfl
theorem inst : Tryz.f3.isInstance Tryz.pinned.checked.prog Rows.topLimitsRow.origin Rows.topLimitsRow.targs := of_decide_eq_true (by kernel_rfl)
theorem wrap : Tryz.f3.isWrapper Tryz.pinned.checked.prog Rows.topLimitsRow.wrapper Rows.topLimitsRow.mainSum := by unfold Func.isWrapper; first | (rw [if_pos (by decide +kernel)]; kernel_rfl) | (rw [if_neg (by decide +kernel)]; exact ⟨rfl, rfl⟩)
theorem holds : Rows.TopLimitsSaid :=
  OpenClaim.holds_of_wide 3 Tryz.f3 rfl rfl rfl rfl rfl rfl rfl ⟨rfl, rfl, rfl, rfl, rfl⟩ rfl rfl rfl rfl rfl fnamed Tryz.func3 closed
    inst wrap
    (fun os started H enc _ => lifted os started H enc)
#print axioms holds
end Go.Proofs.YtajhndakkaniaaaGreatDoor.topLimits
/- TopLimits: the card: the row's statement, its listed variables tied to the program's text. -/
namespace Go.Proofs.YtajhndakkaniaaaGreatDoor.topLimits
open Go
theorem wfText : Rows.topLimitsRow.wfByText (OpenSpec.ofChange Rows.topLimitsSpec) = true := by kernel_rfl
theorem mainIs : Tryz.pinned.checked.prog.mainIs = some (true, "6d19cb48f01fa84828ff6cf0a71e385f9dc254caee202b509655d0736f902d8e".toList) := by kernel_rfl
theorem looks : true = Tryz.prog.looks [] := by kernel_rfl
theorem s3 : Tryz.prog.wantsStandIn 3 = false := by kernel_rfl
theorem s22 : Tryz.prog.wantsStandIn 22 = false := by kernel_rfl
theorem card_holds : Rows.TopLimitsCardSaid :=
  Claim7.holds_tied_plain_at .later [] [.pinned, .data, .data, .data, .data, .sentinel, .sentinel] true (true, "6d19cb48f01fa84828ff6cf0a71e385f9dc254caee202b509655d0736f902d8e") true
    holds (fun _ h => by cases h) wfText (fun _ h => by cases h) topLimits_row_tie rfl ⟨rfl, rfl⟩ mainIs rfl
    (fun f fn hf hfn => by
      obtain rfl : f = 3 := Option.some.inj (fnamed.symm.trans hf) |>.symm
      obtain rfl : fn = Tryz.f3 := (Option.some.inj (Tryz.func3.symm.trans hfn)).symm
      refine ⟨looks, fun j t ht => ?_⟩
      rw [Tryz.params3] at ht
      rcases j with _ | _ | _ | _ | j
      · cases ht; exact s3
      · cases ht; exact s3
      · cases ht; exact s22
      · cases ht; exact s3
      · simp at ht)
    goes
#print axioms card_holds
end Go.Proofs.YtajhndakkaniaaaGreatDoor.topLimits
