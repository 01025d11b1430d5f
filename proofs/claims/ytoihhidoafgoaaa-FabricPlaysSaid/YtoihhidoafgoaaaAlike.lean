/- Contracts of what several laws share: a number rounded, a sum. -/
import Derived.Test.YtoihhidoafgoaaaNum
import Derived.Test.YtoihhidoafgoaaaRun
namespace Go.Proofs.Ytoihhidoafgoaaa
open Go.RowKit

theorem tmod_neg (k n : Int) (hk : k < 0) (hn : 0 < n) : (k.tmod n < 0 → k.tmod n + n = k % n) ∧ (¬ k.tmod n < 0 → k.tmod n = k % n) ∧ -n < k.tmod n ∧ k.tmod n < n := by
  have h := Int.tmod_eq_emod (a := k) (b := n)
  have h1 := Int.emod_nonneg k (show n ≠ 0 by omega)
  have h2 := Int.emod_lt_of_pos k hn
  have h3 : (n.natAbs : Int) = n := Int.natAbs_of_nonneg (by omega)
  by_cases hd : n ∣ k
  · rw [if_pos (.inr hd)] at h
    have := Int.emod_eq_zero_of_dvd hd
    omega
  · rw [if_neg (by intro hh; rcases hh with hh | hh; omega; exact hd hh)] at h
    have h5 : k % n ≠ 0 := fun he => hd (Int.dvd_of_emod_eq_zero he)
    omega
theorem round_any (k n : Int) (w : World) (hn : 0 < n) (hn2 : n ≤ 1000000) : Calls Try.prog 9 #[.int .i64 k, .int .i64 n] w fun e w' => e = .returned (.int .i64 (k % n)) ∧ w = w' := by
  have hnb : (n == 0) = false := by simp; omega
  by_cases hk : 0 ≤ k
  · have h1 := Int.emod_nonneg k (show n ≠ 0 by omega)
    go_enter Try.func9, Try.ntmps9
    go_wp2_with fail
    go_ret
    exact ⟨rfl, rfl⟩
  · obtain ⟨h1, h2, h3, h4⟩ := tmod_neg k n (by omega) hn
    by_cases h5 : k.tmod n < 0
    · have H := Lib.hid (h1 h5)
      clear h1 h2
      go_enter Try.func9, Try.ntmps9
      go_wp2_with fail
      go_ret
      exact ⟨ret_int H.out, rfl⟩
    · have H := Lib.hid (h2 h5)
      clear h1 h2
      go_enter Try.func9, Try.ntmps9
      go_wp2_with fail
      go_ret
      exact ⟨ret_int H.out, rfl⟩
theorem sum_two (n m b : Nat) (o cap : Nat) (w : World) (hc : w.cell? ⟨b, o, none⟩ = some (.int .i64 m)) (hn : n ≤ 9223372036854775807) (hm : m ≤ 9223372036854775807) : Calls Try.prog 47 #[.int .i64 n, .slice (some ⟨b, o, none⟩) 1 cap] w fun e w' => (∃ r : Int, e = .returned (.int .i64 r) ∧ (r ≤ 2000 ↔ n + m ≤ 2000)) ∧ w = w' := by
  have hbl := World.block_lt_of_cell? w _ hc
  rcases (by omega : 1099511627776 < n ∨ (n ≤ 1099511627776 ∧ 1099511627776 - n < m) ∨ (n ≤ 1099511627776 ∧ m ≤ 1099511627776 - n)) with h1 | ⟨h1, h2⟩ | ⟨h1, h2⟩
  · go_enter Try.func47, Try.ntmps47
    go_wp2_with fail
    go_loopw [0, 5] (fun s i wr => s = .int .i64 n ∧ i = .int .i64 0 ∧ w = wr) (fun _ i _ => (1 - intOf i).toNat)
    case atStart => exact ⟨rfl, rfl, rfl⟩
    case round =>
      obtain ⟨rfl, rfl, rfl⟩ := hrel
      go_wp2_with fail
      go_ret
      exact ⟨⟨_, rfl, by omega⟩, rfl⟩
  · go_enter Try.func47, Try.ntmps47
    have h3 : (1099511627776 : Int) - n < m := by omega
    go_wp2_with fail
    go_loopw [0, 5] (fun s i wr => s = .int .i64 n ∧ i = .int .i64 0 ∧ w = wr) (fun _ i _ => (1 - intOf i).toNat)
    case atStart => exact ⟨rfl, rfl, rfl⟩
    case round =>
      obtain ⟨rfl, rfl, rfl⟩ := hrel
      go_wp2_with fail
      go_ret
      exact ⟨⟨_, rfl, by omega⟩, rfl⟩
  · go_enter Try.func47, Try.ntmps47
    have h3 : (m : Int) ≤ 1099511627776 - n := by omega
    go_wp2_with fail
    go_loopw [0, 5] (fun s i wr => (s = .int .i64 n ∧ i = .int .i64 0 ∨ s = .int .i64 (n + m) ∧ i = .int .i64 1) ∧ w = wr) (fun _ i _ => (1 - intOf i).toNat)
    case atStart => exact ⟨.inl ⟨rfl, rfl⟩, rfl⟩
    case round =>
      obtain ⟨⟨rfl, rfl⟩ | ⟨rfl, rfl⟩, rfl⟩ := hrel
      · go_wp2_with fail
        go_roundw
        case rel => exact ⟨.inr ⟨rfl, rfl⟩, trivial⟩
        case measure => simp [intOf]
      · go_wp2_with fail
        go_ret
        exact ⟨⟨_, rfl, by omega⟩, rfl⟩
end Go.Proofs.Ytoihhidoafgoaaa
