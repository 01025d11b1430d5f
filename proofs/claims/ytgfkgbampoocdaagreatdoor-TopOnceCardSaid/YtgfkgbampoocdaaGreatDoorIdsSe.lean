/- The library's BinarySearch at uint64. -/
import Derived.Test.YtgfkgbampoocdaaGreatDoorIdsSl
import Derived.Lib.SlicesSearch
namespace Go.Proofs.YtgfkgbampoocdaaGreatDoor
open Go.RowKit

theorem cnan_u64 (x : Int) (w : World) : Calls Tryz.prog 117 #[.int .u64 x] w fun e w' => e = .returned (.bool false) ∧ w = w' := by
  go_enter Tryz.func117, Tryz.ntmps117
  go_wp2_with fail
  go_ret
  exact ⟨by simp, rfl⟩
theorem snan_u64 (x : Int) (w : World) : Calls Tryz.prog 71 #[.int .u64 x] w fun e w' => e = .returned (.bool false) ∧ w = w' := by
  go_enter Tryz.func71, Tryz.ntmps71
  go_wp2_with fail
  go_ret
  exact ⟨by simp, rfl⟩
theorem less_u64 (x y : Int) (w : World) : Calls Tryz.prog 70 #[.int .u64 x, .int .u64 y] w fun e w' => e = .returned (.bool (decide (x < y))) ∧ w = w' := by
  go_enter Tryz.func70, Tryz.ntmps70
  go_wp2_with (go_at_call 117; refine (cnan_u64 _ _).mono ?_; rintro e w' ⟨rfl, rfl⟩)
  go_ret
  exact ⟨by simp, rfl⟩
set_option maxHeartbeats 4000000 in
set_option maxRecDepth 100000 in
theorem search_u64 (l : List Int) (x : Int) (v : Value) (w : World) (h : Rd w 1 v l.length (l.map (Value.int .u64))) (hl : l.length ≤ 1000000) (hs : l.Pairwise (· ≤ ·)) :
    Calls Tryz.prog 29 #[v, .int .u64 x] w fun e w' => e = .returned (.tuple #[.int .i64 (l.countP (· < x) : Nat), .bool (l.contains x)]) ∧ ∃ q, w' = w.drewN q := by
  have S := Lib.hid (Lib.sorted_at l l.length (Nat.le_refl _) (by rw [List.take_length]; exact hs))
  have HT := Lib.hid (List.take_length (l := l))
  obtain ⟨a, c, rfl, hlc, hcm⟩ := h.form
  have HC : Hid (∀ j, j < l.length → ∃ b o, a = some ⟨b, o, none⟩ ∧ b < w.heap.size ∧ w.cell? ⟨b, o + j, none⟩ = some (.int .u64 (l.getD j 0))) := Lib.hid (fun j hj => by
    obtain ⟨b, o, c', he, _, _, hb, hc⟩ := h.some (by omega) (by decide)
    cases he
    refine ⟨b, o, rfl, hb, hc j _ ?_⟩
    rw [List.getElem?_map, List.getElem?_eq_getElem hj, List.getD_eq_getElem?_getD, List.getElem?_eq_getElem hj]; rfl)
  clear h hs
  go_enter Tryz.func29, Tryz.ntmps29
  go_wp2_with fail
  go_loopw [7, 8] (fun s7 s8 wr => ∃ lo hi q : Nat, s7 = .int .i64 lo ∧ s8 = .int .i64 hi ∧ lo ≤ hi ∧ hi ≤ l.length ∧ wr = w.drewN q ∧ (∀ t, t < lo → l.getD t 0 < x) ∧ (∀ t, hi ≤ t → t < l.length → x ≤ l.getD t 0)) (fun lo hi _ => (intOf hi).toNat - (intOf lo).toNat)
  case atStart => exact ⟨0, l.length, 0, rfl, rfl, Nat.zero_le _, Nat.le_refl _, rfl, fun t ht => absurd ht (Nat.not_lt_zero _), fun t h1 h2 => by omega⟩
  case round =>
    obtain ⟨lo, hi, q, rfl, rfl, hlh, hin, rfl, h1, h2⟩ := hrel
    have I := Lib.hid (And.intro h1 h2)
    clear h1 h2
    by_cases hlt : lo < hi
    · obtain ⟨b, o, rfl, hb, cm⟩ := HC.out ((lo + hi) / 2) (by omega)
      generalize hy : l.getD ((lo + hi) / 2) 0 = y at cm
      have Y := Lib.hid hy
      clear hy
      by_cases hyx : y < x
      · go_wp2_with (go_at_call 70; refine (less_u64 _ _ _).mono ?_; rintro e w' ⟨rfl, rfl⟩)
        go_roundw
        case rel =>
          refine ⟨(lo + hi) / 2 + 1, hi, _, by rw [show ((lo : Int) + (hi : Int)) / 2 + 1 = (((lo + hi) / 2 + 1 : Nat) : Int) by omega], rfl, by omega, hin, rfl, fun t ht => ?_, I.out.2⟩
          have := S.out t ((lo + hi) / 2) (by omega) (by omega)
          rw [Y.out] at this
          omega
        case measure => simp [intOf]; omega
      · go_wp2_with (go_at_call 70; refine (less_u64 _ _ _).mono ?_; rintro e w' ⟨rfl, rfl⟩)
        go_roundw
        case rel =>
          refine ⟨lo, (lo + hi) / 2, _, rfl, by rw [show ((lo : Int) + (hi : Int)) / 2 = (((lo + hi) / 2 : Nat) : Int) by omega], by omega, by omega, rfl, I.out.1, fun t ht htn => ?_⟩
          have := S.out ((lo + hi) / 2) t ht htn
          rw [Y.out] at this
          omega
        case measure => simp [intOf]; omega
    · obtain rfl : hi = lo := by omega
      have E := Lib.search_end l l.length hi x (Nat.le_refl _) hin I.out.1 I.out.2 S.out
      rw [HT.out] at E
      have E := Lib.hid E
      by_cases hn : hi < l.length
      · obtain ⟨b, o, rfl, hb, cl⟩ := HC.out hi hn
        generalize hy : l.getD hi 0 = y at cl
        have Y := Lib.hid hy
        clear hy
        by_cases hyx : y = x
        · go_wp2_with (go_at_call 71; refine (snan_u64 _ _).mono ?_; rintro e w' ⟨rfl, rfl⟩)
          go_ret2
          refine ⟨?_, _, rfl⟩
          rw [E.out.1, E.out.2, Y.out, decide_eq_true (show hi < l.length ∧ y = x from ⟨hn, hyx⟩)]
          first | rfl | simp [*]
        · go_wp2_with (go_at_call 71; refine (snan_u64 _ _).mono ?_; rintro e w' ⟨rfl, rfl⟩)
          go_ret2
          refine ⟨?_, _, rfl⟩
          rw [E.out.1, E.out.2, Y.out, decide_eq_false (show ¬ (hi < l.length ∧ y = x) from fun h => hyx h.2)]
          first | rfl | simp [*]
      · go_wp2_with (go_at_call 71; refine (snan_u64 _ _).mono ?_; rintro e w' ⟨rfl, rfl⟩)
        go_ret2
        refine ⟨?_, _, rfl⟩
        rw [E.out.1, E.out.2, decide_eq_false (show ¬ (hi < l.length ∧ l.getD hi 0 = x) from fun h => hn h.1)]
        first | rfl | simp [*]
end Go.Proofs.YtgfkgbampoocdaaGreatDoor
