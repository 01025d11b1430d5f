/- The law SegmCuts. -/
import Derived.Test.YtikodggaamnooaaB
namespace Go.Proofs.Ytikodggaamnooaa
open Go.RowKit

set_option maxHeartbeats 1000000 in
theorem cuts_in (t m F T : Int) (w : World) (h1 : 0 ≤ t) (h2 : t ≤ 3000) (h3 : 1 ≤ m) (h4 : m ≤ 4000) (h5 : 0 ≤ F) (h6 : T ≤ t) (h7 : F < T) : Calls Try.prog 3 #[.int .i64 t, .int .i64 m, .agg #[.int .i64 F, .int .i64 T]] w (TrueBelow w) := by
  have hcount : 0 < count t m := by
    rw [count_yes _ _ (by omega)]; omega
  go_enter Try.func3, Try.ntmps3
  go_wp2_with fail
  refine (cut_yes _ _ _ _ _ ⟨hcount, h5, by omega⟩ (by omega)).mono ?_
  rintro e w1 ⟨v, n, rfl, hok, hown, hbel⟩
  unfold cutOK at hok
  rw [if_pos ⟨hcount, h5, by omega, by omega⟩, Int.min_eq_left h6] at hok
  obtain ⟨hok1, hok2⟩ := hok
  have hm1 : 0 ≤ F % m := Int.emod_nonneg _ (by omega)
  have hm3 : F % m < m := Int.emod_lt_of_pos _ (by omega)
  have hm2 : F % m ≤ F := by have := Int.mul_ediv_add_emod F m; have h5 : 0 ≤ m * (F / m) := Int.mul_nonneg (by omega) (Int.ediv_nonneg h5 (by omega)); omega
  have hn : 0 < n := by
    rcases Nat.eq_zero_or_pos n with rfl | h
    · simp at hok1; omega
    · exact h
  obtain ⟨g, cap, rfl, hg1, hg2, hg3, hg4, hcell, hfree⟩ := own_some hown hn
  have hbox := below_heap hbel (by simp) (heap_new w _)
  obtain ⟨hl, hc, hf⟩ := blk hbox
  have hcells : ∀ j : Nat, j < n → w1.cell? ⟨g, j * 2, none⟩ = some (.int .i64 (F - F % m + j * m)) ∧ w1.cell? ⟨g, j * 2 + 1, none⟩ = some (.int .i64 (min (F - F % m + j * m + m) t)) := by
    intro j hj
    obtain ⟨r1, r2⟩ := rowOf_get _ j _ (cutL_get (F - F % m) m t n j hj)
    exact ⟨hcell _ _ r1, hcell _ _ r2⟩
  have hB : Below w.heap.size w w1 := ((Below.refl _ _).alloc (Nat.le_refl _) _).trans (hbel.mono (by simp))
  clear hown hcell hbel hfree hf
  have hc0 := (hcells 0 hn).1
  obtain ⟨k, rfl⟩ : ∃ k, n = k + 1 := ⟨n - 1, by omega⟩
  have hck := (hcells k (by omega)).2
  simp at hc0
  have HC := Lib.hid hcells
  clear hcells
  have HK1 := Lib.hid hok1
  have HK2 := Lib.hid hok2
  clear hok1 hok2
  have hT : T ≤ F - F % m + k * m + m := by
    have := HK1.out
    rw [Int.natCast_add, Int.add_mul] at this; simp at this; omega
  have hk1 : (k : Int) * 1 ≤ k * m := Int.mul_le_mul_of_nonneg_left (by omega) (by omega)
  have hk2 : F - F % m + k * m < T := by have := HK2.out k (by omega); omega
  have hk3 : k ≤ 5000 := by omega
  have hb0 : (((k : Int) + 1) == 0) = false := by simp; omega
  have hb1 : decide (F < F - F % m) = false := by simp; omega
  have hb2 : decide (min (F - F % m + k * m + m) t < T) = false := by simp; omega
  go_wp2_with fail
  go_quiet (fail)
  go_wp2_with fail
  go_loopw [8] (fun x wr => ∃ j : Nat, x = .int .i64 j ∧ j ≤ k + 1 ∧ ∃ nq, wr = w1.drewN nq) (fun x _ => k + 1 - (intOf x).toNat)
  case atStart => exact ⟨0, rfl, by omega, _, rfl⟩
  case round =>
    obtain ⟨j, rfl, hj, nq, rfl⟩ := hrel
    by_cases hlt : j < k + 1
    · obtain ⟨hj1, hj2⟩ := HC.out j hlt
      have hjm : (0 : Int) ≤ j * m := Int.mul_nonneg (by omega) (by omega)
      have hjk : (j : Int) * m ≤ k * m := Int.mul_le_mul_of_nonneg_right (by omega) (by omega)
      rcases Nat.eq_zero_or_pos j with rfl | hj0
      · have e1 : decide (min (F - F % m + m) t ≤ F) = false := by simp; omega
        have e2 : decide (T ≤ F - F % m) = false := by simp; omega
        have e3 : ((F - F % m) % m != 0) = false := by simp
        go_wp2_with fail
        go_quiet (fail)
        go_wp2
        go_roundw
        case rel => exact ⟨1, rfl, by omega, _, rfl⟩
        case measure => simp [intOf]
      · obtain ⟨i, rfl⟩ : ∃ i, j = i + 1 := ⟨j - 1, by omega⟩
        obtain ⟨hi1, hi2⟩ := HC.out i (by omega)
        rw [Int.natCast_add, Int.natCast_one] at hj1 hj2 hjm hjk
        have hjm2 : ((i : Int) + 1) * m = i * m + m := by rw [Int.add_mul, Int.one_mul]
        have e1 : decide (min (F - F % m + ((i : Int) + 1) * m + m) t ≤ F) = false := by simp; omega
        have e2 : decide (T ≤ F - F % m + ((i : Int) + 1) * m) = false := by simp; omega
        have e3 : ((F - F % m + ((i : Int) + 1) * m) % m != 0) = false := by
          simp
        have e4 : (F - F % m + ((i : Int) + 1) * m != min (F - F % m + i * m + m) t) = false := by
          rw [bne_eq_false_iff_eq]; omega
        clear hjm2
        go_wp2_with fail
        go_quiet (fail)
        go_wp2
        go_roundw
        case rel => exact ⟨i + 2, by go_num, by omega, _, rfl⟩
        case measure => simp [intOf]; omega
    · go_wp2_with (go_at_call 6; refine (awake_any _).mono ?_; rintro e w' ⟨rfl, hb⟩)
      go_ret
      exact ⟨rfl, (below_dn hB).trans (hb.mono hB.size)⟩

end Go.Proofs.Ytikodggaamnooaa
