/- What the laws of engine ask at their end. -/
import Derived.Test.YtkilljdafainbaaBound
import Derived.Test.YtkilljdafainbaaOrd
namespace Go.Proofs.Ytkilljdafainbaa
open Go.RowKit

def c0 (e : Int) : Cfg := { engine := e, hosts := 2, spines := 1, mtu := 100, window := 200, k := 2, budget := 400, queue := 5000, credits := 4, tables := 10, timeout := 20, cap := 40, retry := 0, maxID := 100 }

theorem chk1 (w : World) : Calls Try.prog 6 #[.agg #[.int .i64 1, .int .i64 2, .int .i64 1, .int .i64 100, .int .i64 200, .int .i64 2, .int .i64 400, .int .i64 5000, .int .i64 4, .int .i64 10, .int .i64 20, .int .i64 40, .int .i64 0, .int .u64 100]] w fun e w' => e = .returned (.int .i64 0) ∧ Below w.heap.size w w' :=
  (check_any (c0 1) w).mono fun e w' ⟨he, hb⟩ => ⟨by rw [he, show chkI (c0 1) = 0 by decide], hb⟩
theorem chk4 (w : World) : Calls Try.prog 6 #[.agg #[.int .i64 4, .int .i64 2, .int .i64 1, .int .i64 100, .int .i64 200, .int .i64 2, .int .i64 400, .int .i64 5000, .int .i64 4, .int .i64 10, .int .i64 20, .int .i64 40, .int .i64 0, .int .u64 100]] w fun e w' => e = .returned (.int .i64 1) ∧ Below w.heap.size w w' :=
  (check_any (c0 4) w).mono fun e w' ⟨he, hb⟩ => ⟨by rw [he, show chkI (c0 4) = 1 by decide], hb⟩
theorem pcs1 (w : World) : Calls Try.prog 7 #[.agg #[.int .i64 1, .int .i64 2, .int .i64 1, .int .i64 100, .int .i64 200, .int .i64 2, .int .i64 400, .int .i64 5000, .int .i64 4, .int .i64 10, .int .i64 20, .int .i64 40, .int .i64 0, .int .u64 100], .int .i64 250] w fun e w' => e = .returned (.int .i64 3) ∧ Below w.heap.size w w' :=
  (pieces_any (c0 1) 250 w).mono fun e w' ⟨he, hb⟩ => ⟨by rw [he, show count 250 (c0 1).mtu = 3 by decide], hb⟩
theorem bnd1 (v : Value) (w : World) (h : Rd w 1 v 1 [.int .i64 250]) : Calls Try.prog 12 #[.agg #[.int .i64 1, .int .i64 2, .int .i64 1, .int .i64 100, .int .i64 200, .int .i64 2, .int .i64 400, .int .i64 5000, .int .i64 4, .int .i64 10, .int .i64 20, .int .i64 40, .int .i64 0, .int .u64 100], v, .int .i64 1] w fun e w' => e = .returned (.int .i64 2840) ∧ Below w.heap.size w w' :=
  (bound_any (c0 1) [250] 1 v w h).mono fun e w' ⟨he, hb⟩ => ⟨by rw [he, show boundI (c0 1) [250] 1 = 2840 by decide], hb⟩

set_option maxHeartbeats 1000000 in
theorem awake_any (w : World) : Calls Try.prog 9 #[] w (TrueBelow w) := by
  go_enter Try.func9, Try.ntmps9
  go_wp2_with fail
  have hB0 : Below w.heap.size w ((w.alloc (.cells #[.int .i64 1, .int .i64 2, .int .i64 1, .int .i64 100, .int .i64 200, .int .i64 2, .int .i64 400, .int .i64 5000, .int .i64 4, .int .i64 10, .int .i64 20, .int .i64 40, .int .i64 0, .int .u64 100] 24)).alloc (.cells #[.int .i64 4, .int .i64 2, .int .i64 1, .int .i64 100, .int .i64 200, .int .i64 2, .int .i64 400, .int .i64 5000, .int .i64 4, .int .i64 10, .int .i64 20, .int .i64 40, .int .i64 0, .int .u64 100] 24)) := ((Below.refl _ _).alloc (Nat.le_refl _) _).alloc (by simp) _
  refine (chk1 _).mono ?_
  rintro e w1 ⟨rfl, hb1⟩
  have hx := below_heap hb1 (by simp <;> omega) (heap_old _ (heap_new w _))
  have hy := below_heap hb1 (by simp) (heap_new (w.alloc _) _)
  have hB1 : Below w.heap.size w w1 := hB0.trans (hb1.mono (by simp <;> omega))
  simp only [World.size_alloc] at hy
  obtain ⟨ly, cy, _⟩ := blk hy
  have HX := Lib.hid hx
  have HB1 := Lib.hid hB1
  clear hb1 hB0 hx hB1
  go_wp2_with fail
  refine (chk4 _).mono ?_
  rintro e w2 ⟨rfl, hb2⟩
  obtain ⟨lx, cx, _⟩ := blk (below_heap hb2 (heap_lt HX.out) HX.out)
  have hB2 : Below w.heap.size w w2 := HB1.out.trans (hb2.mono HB1.out.size)
  have HX2 := Lib.hid (below_heap hb2 (heap_lt HX.out) HX.out)
  have HB2 := Lib.hid hB2
  clear hb2 hB2 ly cy
  go_wp2_with fail
  refine (pcs1 _).mono ?_
  rintro e w3 ⟨rfl, hb3⟩
  obtain ⟨lx3, cx3, _⟩ := blk (below_heap hb3 (heap_lt HX2.out) HX2.out)
  have hB3 : Below w.heap.size w w3 := HB2.out.trans (hb3.mono HB2.out.size)
  clear hb3 lx cx
  go_wp2_with fail
  refine (bnd1 _ _ (rdInts1 (K := .i64) (by simp))).mono ?_
  rintro e w4 ⟨rfl, hb4⟩
  go_wp2_with fail
  go_ret
  exact ⟨rfl, (hB3.alloc hB3.size _).trans (hb4.mono (by simp; have := hB3.size; omega))⟩
end Go.Proofs.Ytkilljdafainbaa
