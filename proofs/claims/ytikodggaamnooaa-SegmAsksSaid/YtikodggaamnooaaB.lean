/- The law SegmCuts. -/
import Derived.Test.YtikodggaamnooaaA
namespace Go.Proofs.Ytikodggaamnooaa
open Go.RowKit

set_option maxHeartbeats 400000 in
theorem awake_any (w : World) : Calls Try.prog 6 #[] w (TrueBelow w) := by
  have p1 : pieceV 10 4 2 = .tuple #[.agg #[.int .i64 8, .int .i64 10], .int .i64 0] := by kernel_rfl
  have p2 : pieceV 10 4 3 = .tuple #[.agg #[.int .i64 0, .int .i64 0], .int .i64 1] := by kernel_rfl
  have p3 : count 10 4 = 3 := by decide
  have p4 : count 0 5 = 1 := by decide
  go_enter Try.func6, Try.ntmps6
  go_wp2_with fail
  refine (piece_any _ _ _ _).mono ?_
  rintro e w1 ⟨rfl, hb1⟩
  rw [p1]
  go_wp2_with fail
  refine (piece_any _ _ _ _).mono ?_
  rintro e w2 ⟨rfl, hb2⟩
  rw [p2]
  have h1 := below_heap hb2 (by simp) (heap_new w1 _)
  obtain ⟨hl, hc, hf⟩ := blk h1
  have hB : Below w.heap.size w w2 := hb1.trans ((((Below.refl _ _).alloc (Nat.le_refl _) _).trans (hb2.mono (by simp))).mono hb1.size)
  clear hb1 hb2 h1
  go_wp2_with (go_at_call 8; refine (count_any _ _ _).mono ?_; rintro e w' ⟨rfl, rfl⟩)
  go_ret
  exact ⟨rfl, hB.alloc hB.size _⟩

set_option maxHeartbeats 1000000 in
theorem cuts_out (t m F T : Int) (w : World) (h : t < 0 ∨ 3000 < t ∨ m < 1 ∨ 4000 < m ∨ F < 0 ∨ t < T ∨ T ≤ F) : Calls Try.prog 3 #[.int .i64 t, .int .i64 m, .agg #[.int .i64 F, .int .i64 T]] w (TrueBelow w) := by
  go_enter Try.func3, Try.ntmps3
  go_wp2_with (go_at_call 6; refine (awake_any _).mono ?_; rintro e w' ⟨rfl, hb⟩)
  all_goals
    go_ret
    exact ⟨rfl, ((Below.refl _ _).alloc (Nat.le_refl _) _).trans (hb.mono (by simp))⟩

end Go.Proofs.Ytikodggaamnooaa
