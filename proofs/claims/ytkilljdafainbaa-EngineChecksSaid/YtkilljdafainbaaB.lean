/- The law EngineChecks, walked. -/
import Derived.Test.YtkilljdafainbaaMay
import Derived.Test.YtkilljdafainbaaA
namespace Go.Proofs.Ytkilljdafainbaa
open Go.RowKit

set_option maxHeartbeats 1000000 in
theorem checks_any (c : Cfg) (t : Int) (w : World) : Calls Try.prog 3 #[.agg c.cells, .int .i64 t] w (TrueBelow w) := by
  have q1 := Lib.hid (check_any c)
  have q2 := Lib.hid (pieces_any c)
  have q3 := Lib.hid (may_any c)
  unfold Cfg.cells at q1 q2 q3 ⊢
  have hokc : okB c = true ∨ okB c = false := by cases okB c <;> simp
  rcases hokc with hok | hok
  all_goals
    have hchk : chkI c = if okB c = true then 0 else 1 := rfl
    rw [hok] at hchk
    have HC := Lib.hid hchk
    have HO := Lib.hid hok
    clear hok hchk
    go_enter Try.func3, Try.ntmps3
    go_wp2_with fail
    refine (q3.out _).mono ?_
    rintro e w1 ⟨rfl, hb1⟩
    rw [HO.out]
    have HX := Lib.hid (below_heap hb1 (by simp) (heap_new w _))
    have HB := Lib.hid (((Below.refl _ _).alloc (Nat.le_refl _) _).trans (hb1.mono (by simp)) : Below w.heap.size w w1)
    clear hb1
    obtain ⟨lx, cx, _⟩ := blk HX.out
    go_wp2_with fail
    refine wp_ord (M := fun _ => False) (stages [([true, false, true, false, false, false, false, false, false, false, false, false, false, false, false, false, false, false], 1), ([false, false, false, true, true, true, true, false, true, true, true, false, false, false, false, false, false, false], 7), ([false, false, false, false, false, false, false, false, false, false, false, false, false, false, false, false, false, false], 11), ([false, false, false, false, false, false, false, false, false, false, false, false, true, true, true, false, false, false], 15)] [false, false, false, false, false, false, false, false, false, false, false, false, false, false, false, false, true, true]) (by kernel_rfl) (by kernel_rfl) ?_
    refine ord_stage rfl ?_
    simp only [pickAt]
    repeat (go_big_quiet_step (fail))
    refine wpQuiet_nil ?_
    refine act_want rfl ?_
    intro x1 hx1 A hA
    go_simp
    refine (q1.out _).mono ?_
    rintro e y1 ⟨rfl, hc1⟩
    rw [HC.out]
    refine hA _ _ (Kept.of_below hc1) ?_
    have k1 := hx1.trans (Kept.of_below hc1)
    obtain ⟨lx1, cx1, _⟩ := blk (k1.heap HX.out id)
    clear A hA hx1 hc1 lx cx
    refine ord_stage rfl ?_
    simp only [pickAt]
    repeat (go_big_quiet_step (fail))
    refine wpQuiet_nil ?_
    refine act_want rfl ?_
    intro x2 hx2 A hA
    go_simp
    refine (q2.out _ _).mono ?_
    rintro e y2 ⟨rfl, hc2⟩
    refine hA _ _ (Kept.of_below hc2) ?_
    have k2 := k1.trans (hx2.trans (Kept.of_below hc2))
    clear A hA hx2 hc2 lx1 cx1
    refine ord_stage rfl ?_
    simp only [pickAt]
    repeat (go_big_quiet_step (fail))
    refine wpQuiet_nil ?_
    refine act_want rfl ?_
    intro x3 hx3 A hA
    go_simp
    refine (count_ref _ _ _).mono ?_
    rintro e y3 ⟨rfl, rfl⟩
    refine hA _ _ (Kept.refl _ _) ?_
    have k3 := k2.trans hx3
    clear A hA hx3
    refine ord_stage rfl ?_
    simp only [pickAt]
    repeat (go_big_quiet_step (fail))
    refine wpQuiet_nil ?_
    refine act_want rfl ?_
    intro x4 hx4 A hA
    go_simp
    refine (awake_any _).mono ?_
    rintro e y4 ⟨rfl, hc4⟩
    refine hA _ _ (Kept.of_below hc4) ?_
    have k4 := k3.trans (hx4.trans (Kept.of_below hc4))
    clear A hA hx4 hc4
    refine ord_last ?_
    simp only [pickAt]
    repeat (go_big_quiet_step (fail))
    refine wpQuiet_nil ?_
    intro x5 hx5
    have k5 := k4.trans hx5
    go_wp2
    go_ret
    exact ⟨rfl, HB.out.trans (k5.below.mono HB.out.size)⟩
end Go.Proofs.Ytkilljdafainbaa
