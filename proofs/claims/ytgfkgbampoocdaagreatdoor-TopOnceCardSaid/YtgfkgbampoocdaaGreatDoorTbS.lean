/- TopOnce: the card: the row's statement, its listed variables tied to the program's text. -/
import Derived.Test.YtgfkgbampoocdaaGreatDoorCards
import Derived.Test.YtgfkgbampoocdaaGreatDoorMtE
import Derived.Test.YtgfkgbampoocdaaGreatDoorTbR
import Derived.Test.YtgfkgbampoocdaaGreatDoorTbT
import Derived.SevenTiedAt
namespace Go.Proofs.YtgfkgbampoocdaaGreatDoor.topOnce
open Go
theorem wfText : Rows.topOnceRow.wfByText (OpenSpec.ofChange Rows.topOnceSpec) = true := by kernel_rfl
theorem mainIs : Tryz.pinned.checked.prog.mainIs = some (true, "3c086969f8635d9a3729e5ffad49b8ecec53bd99e8315267fcc0789eb06bcb06".toList) := by kernel_rfl
theorem looks : true = Tryz.prog.looks [] := by kernel_rfl
theorem s22 : Tryz.prog.wantsStandIn 22 = false := by kernel_rfl
theorem s23 : Tryz.prog.wantsStandIn 23 = false := by kernel_rfl
theorem s24 : Tryz.prog.wantsStandIn 24 = false := by kernel_rfl
theorem card_holds : Rows.TopOnceCardSaid :=
  Claim7.holds_tied_plain_at .later [] [.pinned, .data, .data, .data, .data, .sentinel, .sentinel] true (true, "3c086969f8635d9a3729e5ffad49b8ecec53bd99e8315267fcc0789eb06bcb06") true
    holds (fun _ h => by cases h) wfText (fun _ h => by cases h) topOnce_row_tie rfl ⟨rfl, rfl⟩ mainIs rfl
    (fun f fn hf hfn => by
      obtain rfl : f = 3 := Option.some.inj (fnamed.symm.trans hf) |>.symm
      obtain rfl : fn = Tryz.f3 := (Option.some.inj (Tryz.func3.symm.trans hfn)).symm
      refine ⟨looks, fun j t ht => ?_⟩
      rw [Tryz.params3] at ht
      rcases j with _ | _ | _ | _ | j
      · cases ht; exact s22
      · cases ht; exact s22
      · cases ht; exact s23
      · cases ht; exact s24
      · simp at ht)
    goes
#print axioms card_holds
end Go.Proofs.YtgfkgbampoocdaaGreatDoor.topOnce
