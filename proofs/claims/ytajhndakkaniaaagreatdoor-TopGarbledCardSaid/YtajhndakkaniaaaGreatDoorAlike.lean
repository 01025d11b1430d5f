/- Contracts of what several laws share: a number rounded, a sum. -/
import Derived.Test.YtajhndakkaniaaaGreatDoorNum
import Derived.Test.YtajhndakkaniaaaGreatDoorRun
namespace Go.Proofs.YtajhndakkaniaaaGreatDoor
open Go.RowKit

theorem tmod_neg (k n : Int) (hk : k < 0) (hn : 0 < n) : (k.tmod n < 0 → k.tmod n + n = k % n) ∧ (¬ k.tmod n < 0 → k.tmod n = k % n) ∧ -n < k.tmod n ∧ k.tmod n < n := by
  have h := Int.tmod_eq_emod (a := k) (b := n)
  have h1 := Int.emod_nonneg k (show n ≠ 0 by omega)
  have h2 := Int.emod_lt_of_pos k hn
  have h3 : (n.natAbs : Int) = n := Int.natAbs_of_nonneg (by omega)
  by_cases hd : n ∣ k
  · rw [if_pos (.inr hd)] at h
    have := Int.emod_eq_zero_of_dvd hd
    omega
  · rw [if_neg (by intro hh; rcases hh with hh | hh; omega; exact hd hh)] at h
    have h5 : k % n ≠ 0 := fun he => hd (Int.dvd_of_emod_eq_zero he)
    omega
theorem round_any (k n : Int) (w : World) (hn : 0 < n) (hn2 : n ≤ 1000000) : Calls Tryz.prog 15 #[.int .i64 k, .int .i64 n] w fun e w' => e = .returned (.int .i64 (k % n)) ∧ w = w' := by
  have hnb : (n == 0) = false := by simp; omega
  by_cases hk : 0 ≤ k
  · have h1 := Int.emod_nonneg k (show n ≠ 0 by omega)
    go_enter Tryz.func15, Tryz.ntmps15
    go_wp2_with fail
    go_ret
    exact ⟨rfl, rfl⟩
  · obtain ⟨h1, h2, h3, h4⟩ := tmod_neg k n (by omega) hn
    by_cases h5 : k.tmod n < 0
    · have H := Lib.hid (h1 h5)
      clear h1 h2
      go_enter Tryz.func15, Tryz.ntmps15
      go_wp2_with fail
      go_ret
      exact ⟨ret_int H.out, rfl⟩
    · have H := Lib.hid (h2 h5)
      clear h1 h2
      go_enter Tryz.func15, Tryz.ntmps15
      go_wp2_with fail
      go_ret
      exact ⟨ret_int H.out, rfl⟩
end Go.Proofs.YtajhndakkaniaaaGreatDoor
