/- bytes.Equal: two rows of bytes are the same. -/
import Derived.Test.YtajhndakkaniaaaGreatDoorWireEnc
import Derived.Test.YtajhndakkaniaaaGreatDoorTail
namespace Go.Proofs.YtajhndakkaniaaaGreatDoor
open Go.RowKit

theorem equal_any (v u : Value) (l m : List UInt8) (w : World) (h : Rd w 1 v l.length (bcells l)) (h' : Rd w 1 u m.length (bcells m)) : Calls Tryz.prog 42 #[v, u] w fun e w' => e = .returned (.bool (decide (l = m))) ∧ w = w' := by
  have HR := Lib.hid h
  have HS := Lib.hid h'
  clear h h'
  go_enter Tryz.func42, Tryz.ntmps42
  go_wp2_with (first | refine wpList_str rfl 33 9 (.tmp 5) rfl Tryz.underlying33 Tryz.underlying5 Tryz.underlying9 HR.out rfl ?_ | refine wpList_str rfl 33 9 (.tmp 7) rfl Tryz.underlying33 Tryz.underlying5 Tryz.underlying9 HS.out rfl ?_)
  go_ret
  refine ⟨?_, rfl⟩
  show Ending.returned (.bool (l == m)) = _
  congr 2
  by_cases hlm : l = m <;> simp [hlm]
end Go.Proofs.YtajhndakkaniaaaGreatDoor
