/- What a host gets (chapter 20): a message of one part; one that is not to be, one that has ended. -/
import Derived.Test.YtgfkgbampoocdaaGreatDoorTbE
import Derived.Deep.CutBlock
namespace Go.Proofs.YtgfkgbampoocdaaGreatDoor
open Go.RowKit

set_option maxRecDepth 100000 in
theorem data_bad (r : Rs) (id : Int) (L c : Nat) (p : Option Addr) (w : World) (hid : id = 0 ∨ 1152921504606846976 < id) : Calls Tryz.prog 7 #[.pointer (some ⟨r.R, 0, none⟩), .int .i64 3, .int .u64 id, .int .i64 L, .int .i64 0, .slice p L c] w fun e w' => e = .returned (.tuple #[.int .i64 0, .bool false, .int .i64 1]) ∧ w = w' := by
  by_cases h0 : id = 0
  · have e1 : (id == 0) = true := beq_iff_eq.2 h0
    clear hid h0
    go_enter Tryz.func7, Tryz.ntmps7
    go_wp2_with fail
    go_ret3
    exact ⟨rfl, rfl⟩
  · have e1 : (id == 0) = false := beq_eq_false_iff_ne.2 h0
    have e2 : decide (1152921504606846976 < id) = true := decide_eq_true (hid.resolve_left h0)
    clear hid h0
    go_enter Tryz.func7, Tryz.ntmps7
    go_wp2_with fail
    go_ret3
    exact ⟨rfl, rfl⟩
set_option maxRecDepth 100000 in
theorem data_is (r : Rs) (B : Nat) (V : Value) (S : Wd) (k3 : Int) (on : Option (Int × Value)) (out : Value) (n : Nat) (xs : List Value) (id : Int) (L c : Nat) (p : Option Addr) (w : World) (h : Rv r B V S k3 on out n xs w) (ho : S.ok) (hl : L ≤ 200) (hid : id ≠ 0 ∧ id ≤ 1152921504606846976) (hi : S.is id = true) : Calls Tryz.prog 7 #[.pointer (some ⟨r.R, 0, none⟩), .int .i64 3, .int .u64 id, .int .i64 L, .int .i64 0, .slice p L c] w fun e w' => e = .returned (.tuple #[.int .i64 0, .bool true, .int .i64 0]) ∧ ∃ q, w' = w.drewN q := by
  obtain ⟨lb, cb, fb⟩ := h.ob.blk
  have c1 : w.cell? ⟨r.R, 1, none⟩ = some (.pointer (some ⟨r.t, 0, none⟩)) := cb 1
  have HR := Lib.hid h
  have HO := Lib.hid ho
  have e1 : (id == 0) = false := beq_eq_false_iff_ne.2 hid.1
  have e2 : decide (1152921504606846976 < id) = false := decide_eq_false (by omega)
  have e3 : decide ((L : Int) < 0) = false := decide_eq_false (by omega)
  have HI := Lib.hid hi
  clear cb h ho hid hi
  go_enter Tryz.func7, Tryz.ntmps7
  go_wp2_with fail
  refine (ended_any r B V S k3 on out n xs id _ HR.out HO.out).mono ?_
  rw [HI.out]
  rintro e w1 ⟨rfl, q, rfl⟩
  go_wp2_with fail
  go_ret3
  exact ⟨rfl, q, rfl⟩
end Go.Proofs.YtgfkgbampoocdaaGreatDoor
