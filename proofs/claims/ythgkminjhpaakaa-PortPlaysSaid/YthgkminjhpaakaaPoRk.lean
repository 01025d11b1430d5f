/- The document's port (chapter 13): a line without one of its items; Drop. -/
import Derived.Test.YthgkminjhpaakaaPoRh
namespace Go.Proofs.Ythgkminjhpaakaa
open Go.RowKit

set_option maxRecDepth 100000 in
set_option maxHeartbeats 4000000 in
theorem mwithout (a : Option Addr) (c : Nat) (l : List It) (k : Nat) (w : World) (h : Rt w (.slice a l.length c) l) (hk : k < l.length) (hl : l.length ≤ 100000) (hlc : l.length ≤ c) : Calls Try.prog 47 #[.slice a l.length c, .int .i64 k] w fun e w' => ∃ v, e = .returned v ∧ w'.ownsRow w.heap.size TX 11 v (l.take k ++ l.drop (k + 1)).length ((l.take k ++ l.drop (k + 1)).flatMap It.row) ∧ Below w.heap.size w w' := by
  have HR := Lib.hid h
  clear h
  obtain ⟨i0, hi0, hz0, hs0, hb0⟩ := info_parts info_x
  have hsl : ∀ W : World, (Instr.sliceAt 57 (.slice a l.length c) none (some (.int .i64 k)) none).run Try.prog W = .ok (.slice a k c) W := fun W => by
    have := run_slTo (w := W) (P := Try.prog) Try.underlying57 hi0 a l.length c .i64 (k : Int) (by omega)
    simpa using this
  have hsl2 : ∀ W : World, (Instr.sliceAt 57 (.slice a l.length c) (some (.int .i64 ((k : Int) + 1))) none none).run Try.prog W = .ok (.slice (slAddr a c (k + 1) 11) (l.length - (k + 1)) (c - (k + 1))) W := fun W => by
    have := run_slFrom (w := W) (P := Try.prog) Try.underlying57 hi0 a l.length c .i64 ((k : Int) + 1) (by omega)
    rw [hs0] at this
    rw [show ((k : Int) + 1).toNat = k + 1 by omega] at this
    exact this
  clear hi0 hz0 hs0 hb0
  go_enter Try.func47, Try.ntmps47
  go_wp2_with fail
  refine wp_stands (M := (Since w.heap.size)) (by kernel_rfl) ?_
  refine st_quiet [false, true, true, true, false, true, true, true, true, false, false] (by kernel_rfl) ?_
  simp only [pickAt]
  repeat (go_big_quiet_step (fail))
  refine wpQuiet_nil ?_
  refine st_act 0 rfl (by kernel_rfl) ?_
  refine run_want rfl ?_
  intro A hA
  go_simp
  have E0 := Lib.hid (World.ownsRow_made (base := w.heap.size) (e := TX) (size := 11) w.drew #[] 0 (Nat.le_refl _) (by decide) rfl)
  have K0 : Hid (Kept (Since w.heap.size) w (w.drew.alloc (.cells #[] TX))) := Lib.hid (((Kept.refl _ _).drewR).alloc _)
  refine hA _ _ ((Kept.refl _ _).alloc _) ?_
  try simp only [Act.put, List.setIfInBounds_toArray, List.set_cons_zero, List.set_cons_succ]
  clear A hA
  have hS : ∀ W, Kept (Since w.heap.size) w W → ∀ v l', Rt w v l' → Rt W v l' := fun W hK v l' hr => hr.kept hK fun g h1 h2 => absurd h1 (Nat.not_le.2 h2)
  refine st_act 4 rfl (by kernel_rfl) ?_
  refine run_want rfl ?_
  intro A hA
  have R1 := (hS _ K0.out _ _ (HR.out.to k (by omega))).rd
  rw [show (l.take k).length = k by rw [List.length_take]; omega] at R1
  refine wp_appAt (.tmp 5) (.tmp 8) 57 (by rfl) info_x Try.underlying57 rfl (by decide) E0.out R1 (by rfl) (by rfl) (one_itrows _) (by omega) K0.out.size ?_
  intro v4 w4 ho4 hg4 hb4
  rw [List.nil_append, Nat.zero_add] at ho4
  have G4 := Kept.of_grown (M := Since w.heap.size) hg4 fun y hy => (E0.out.lt y hy).1
  have K4 := Lib.hid (K0.out.trans G4)
  have O4 := Lib.hid ho4
  obtain ⟨a4, c4, rfl, _, _⟩ := (Rd.of_own ho4).form
  refine hA _ _ (G4) ?_
  try simp only [Act.put, List.setIfInBounds_toArray, List.set_cons_zero, List.set_cons_succ]
  clear A hA
  clear ho4 hg4 hb4 G4 R1
  refine st_act 9 rfl (by kernel_rfl) ?_
  refine run_want rfl ?_
  intro A hA
  have R2 := (hS _ K4.out _ _ (HR.out.tail (k + 1) (by omega))).rd
  rw [show (l.drop (k + 1)).length = l.length - (k + 1) by rw [List.length_drop]] at R2
  refine wp_appAt (.tmp 9) (.tmp 13) 57 (by rfl) info_x Try.underlying57 rfl (by decide) O4.out R2 (by rfl) (by rfl) (one_itrows _) (by omega) K4.out.size ?_
  intro v9 w9 ho9 hg9 hb9
  have G9 := Kept.of_grown (M := Since w.heap.size) hg9 fun y hy => (O4.out.lt y hy).1
  have K9 := Lib.hid (K4.out.trans G9)
  have O9 : Hid (w9.ownsRow w.heap.size TX 11 v9 (l.take k ++ l.drop (k + 1)).length ((l.take k ++ l.drop (k + 1)).flatMap It.row)) := Lib.hid (by
    rw [List.length_append, List.length_take, List.length_drop, Nat.min_eq_left (by omega), List.flatMap_append]
    exact ho9)
  refine hA _ _ (G9) ?_
  try simp only [Act.put, List.setIfInBounds_toArray, List.set_cons_zero, List.set_cons_succ]
  clear A hA
  clear ho9 hg9 hb9 G9 R2
  refine st_quiet [false, false, false, false, false, false, false, false, false, false, true] (by kernel_rfl) ?_
  simp only [pickAt]
  repeat (go_big_quiet_step (fail))
  refine wpQuiet_nil ?_
  refine st_done (by kernel_rfl) ?_
  go_wp2_with fail
  go_ret
  exact ⟨_, rfl, O9.out, K9.out.since (Nat.le_refl _)⟩
end Go.Proofs.Ythgkminjhpaakaa
