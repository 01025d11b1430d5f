/- The laws of num, walked: fixed points, kinds, laws of numbers. -/
import Derived.Test.YthjfeodpfjejfaaA
namespace Go.Proofs.Ythjfeodpfjejfaa
open Go.RowKit

set_option maxRecDepth 100000 in
set_option maxHeartbeats 1000000 in
theorem fixes_any (a b n : Int) (w : World) : Calls Try.prog 4 #[.int .i64 a, .int .i64 b, .int .i64 n] w (TrueBelow w) := by
  obtain ⟨d, f, hd⟩ : ∃ d f, partV a b = .tuple #[.int .i64 d, .int .i64 f] := by unfold partV; split <;> exact ⟨_, _, rfl⟩
  have HD := Lib.hid hd
  clear hd
  go_enter Try.func4, Try.ntmps4
  go_wp2_with (first
    | (go_at_call 14; refine (part_any _ _ _).mono ?_; rintro e w' ⟨rfl, rfl⟩; rw [HD.out])
    | (go_at_call 15; refine (part_ref _ _ _).mono ?_; rintro e w' ⟨rfl, rfl⟩; rw [HD.out])
    | (go_at_call 16; refine (of_any _ _).mono ?_; rintro e w' ⟨rfl, rfl⟩)
    | (go_at_call 17; refine (of_ref _ _).mono ?_; rintro e w' ⟨rfl, rfl⟩)
    | (go_at_call 18; refine (times_any _ _ _).mono ?_; rintro e w' ⟨rfl, rfl⟩)
    | (go_at_call 19; refine (times_ref _ _ _).mono ?_; rintro e w' ⟨rfl, rfl⟩)
    | (go_at_call 20; refine (plus_any _ _ _).mono ?_; rintro e w' ⟨rfl, rfl⟩)
    | (go_at_call 21; refine (plus_ref _ _ _).mono ?_; rintro e w' ⟨rfl, rfl⟩)
    | (go_at_call 22; refine (by_any _ _ _).mono ?_; rintro e w' ⟨rfl, rfl⟩)
    | (go_at_call 23; refine (by_ref _ _ _).mono ?_; rintro e w' ⟨rfl, rfl⟩)
    | (go_at_call 24; refine (int_any _ _).mono ?_; rintro e w' ⟨rfl, rfl⟩)
    | (go_at_call 25; refine (int_ref _ _).mono ?_; rintro e w' ⟨rfl, rfl⟩)
    | (go_at_call 13; refine (awake_any _).mono ?_; rintro e w' ⟨rfl, hb⟩))
  go_ret
  exact ⟨rfl, hb⟩

theorem clamp_mid (c d : Int) : clampI c (min c d) (max c d) = c := by
  unfold clampI
  split
  · omega
  · split <;> omega
theorem clamp_55 (a : Int) : clampI a 5 5 = 5 := by
  unfold clampI
  split
  · rfl
  · split <;> omega

set_option maxRecDepth 100000 in
set_option maxHeartbeats 1000000 in
theorem kinds_any (a b c d : Int) (w : World) : Calls Try.prog 3 #[.int .u64 a, .int .u64 b, .int .i32 c, .int .i32 d] w (TrueBelow w) := by
  have h1 := clamp_mid a b
  have h2 := clamp_mid c d
  have h3 := clamp_55 a
  have h4 : max (max c d) c = max c d := by omega
  go_enter Try.func3, Try.ntmps3
  go_wp2_with (first
    | (go_at_call 7; refine (min_u64 _ [b] _ _ (rdInts1 (by simp))).mono ?_; rintro e w' ⟨rfl, rfl⟩)
    | (go_at_call 8; refine (max_u64 _ [b] _ _ (rdInts1 (by simp))).mono ?_; rintro e w' ⟨rfl, rfl⟩)
    | (go_at_call 9; refine (min_i32 _ [d] _ _ (rdInts1 (by simp))).mono ?_; rintro e w' ⟨rfl, rfl⟩)
    | (go_at_call 10; refine (max_i32 _ [d, c] _ _ (rdInts2 (by simp))).mono ?_; rintro e w' ⟨rfl, rfl⟩)
    | (go_at_call 11; refine (clamp_i32 _ _ _ _).mono ?_; rintro e w' ⟨rfl, rfl⟩)
    | (go_at_call 12; refine (clamp_u64 _ _ _ _).mono ?_; rintro e w' ⟨rfl, rfl⟩)
    | (go_at_call 13; refine (awake_any _).mono ?_; rintro e w' ⟨rfl, hb⟩))
  go_ret
  refine ⟨rfl, Below.trans ?_ (hb.mono (by simp <;> omega))⟩
  exact (((((Below.refl _ _).alloc (Nat.le_refl _) _).alloc (by simp <;> omega) _).alloc (by simp <;> omega) _).alloc (by simp <;> omega) _)

/-- what is to be shown of numbers within the limits -/
structure LawNums (a b c : Int) : Prop where
  h1 : addI (addI a b) c = addI a (addI b c)
  h2 : mulI a b = a * b
  h3 : divV (a * b) b = .tuple #[.int .i64 a, .int .i64 0]
  h4 : partV a b = .tuple #[.int .i64 (a * 65536 / b), .int .i64 0]
  h5 : subI (addI a c) c = a
  h6 : timesI (a * 65536 / b) b ≤ a
  h7 : a - timesI (a * 65536 / b) b ≤ b / 65536 + 1
  h8 : hold (ofI a) / 65536 = a
  h9 : timesI (ofI b) (a * 65536 / b) ≤ ofI a
  h10 : 0 ≤ timesI (a * 65536 / b) b
theorem lawNums (a b c : Int) (a0 : 0 ≤ a) (a1 : a ≤ 1048576) (b0 : 1 ≤ b) (b1 : b ≤ 1048576) (c0 : 0 ≤ c) (c1 : c ≤ 1048576) : LawNums a b c := by
  have ha := hold_id a a0 (by omega)
  have hb := hold_id b (by omega) (by omega)
  have hc := hold_id c c0 (by omega)
  have m0 : 0 ≤ a * b := Int.mul_nonneg a0 (by omega)
  have m1 : a * b ≤ 1048576 * 1048576 := Int.mul_le_mul a1 b1 (by omega) (by decide)
  have hab := hold_id (a * b) m0 (by omega)
  have hq := Int.mul_ediv_add_emod (a * 65536) b
  have r0 : 0 ≤ a * 65536 % b := Int.emod_nonneg _ (by omega)
  have r1 : a * 65536 % b < b := Int.emod_lt_of_pos _ (by omega)
  have q0 : 0 ≤ a * 65536 / b := Int.ediv_nonneg (by omega) (by omega)
  have q1 : a * 65536 / b ≤ a * 65536 := Int.ediv_le_self _ (by omega)
  have hof : ∀ n, 0 ≤ n → n ≤ 1048576 → ofI n = n * 65536 := by
    intro n h0 h1
    unfold ofI clampI
    rw [if_neg (by omega), if_neg (by omega)]
  generalize hp : a * 65536 / b = p at *
  have hpb : b * p = p * b := Int.mul_comm _ _
  have hhp := hold_id p q0 (by omega)
  refine ⟨?_, ?_, ?_, ?_, ?_, ?_, ?_, ?_, ?_, ?_⟩
  · unfold addI
    rw [ha, hb, hc, hold_id (a + b) (by omega) (by omega), hold_id (b + c) (by omega) (by omega), hold_id (a + b) (by omega) (by omega), hold_id (b + c) (by omega) (by omega), Int.add_assoc]
  · unfold mulI; rw [ha, hb]; omega
  · unfold divV; rw [if_neg (by omega), hab, Int.mul_ediv_cancel _ (by omega)]
  · unfold partV; rw [if_neg (by omega), hp]
  · unfold subI addI
    rw [ha, hc, hold_id (a + c) (by omega) (by omega), hold_id (a + c) (by omega) (by omega), hold_id (a + c - c) (by omega) (by omega)]
    omega
  · unfold timesI; rw [hp, hhp, hb]; omega
  · unfold timesI; rw [hp, hhp, hb]; omega
  · rw [hof a a0 a1, hold_id _ (by omega) (by omega)]; omega
  · unfold timesI
    rw [hp, hof a a0 a1, hof b (by omega) b1, hold_id (b * 65536) (by omega) (by omega), hhp]
    have e : b * 65536 * p = b * p * 65536 := by rw [Int.mul_assoc, Int.mul_comm 65536 p, ← Int.mul_assoc]
    rw [e]; omega
  · unfold timesI; rw [hp, hhp, hb]
    have : 0 ≤ p * b := Int.mul_nonneg q0 (by omega)
    omega

theorem clamp_b (n l h : Int) (hl : l ≤ h) : l ≤ clampI n l h ∧ clampI n l h ≤ h := by
  unfold clampI
  split
  · omega
  · split <;> omega

set_option maxRecDepth 100000 in
set_option maxHeartbeats 1000000 in
theorem laws_any (a' b' c' : Int) (w : World) : Calls Try.prog 6 #[.int .i64 a', .int .i64 b', .int .i64 c'] w (TrueBelow w) := by
  obtain ⟨a0, a1⟩ := clamp_b a' 0 1048576 (by decide)
  obtain ⟨b0, b1⟩ := clamp_b b' 1 1048576 (by decide)
  obtain ⟨c0, c1⟩ := clamp_b c' 0 1048576 (by decide)
  go_enter Try.func6, Try.ntmps6
  go_wp2_with (go_at_call 35; refine (clamp_ref _ _ _ _).mono ?_; rintro e w' ⟨rfl, rfl⟩)
  generalize clampI a' 0 1048576 = a at *
  generalize clampI b' 1 1048576 = b at *
  generalize clampI c' 0 1048576 = c at *
  have L := lawNums a b c a0 a1 b0 b1 c0 c1
  have m0 : 0 ≤ a * b := Int.mul_nonneg a0 (by omega)
  have m1 : a * b ≤ 1048576 * 1048576 := Int.mul_le_mul a1 b1 (by omega) (by decide)
  have l6 := L.h6
  have l7 := L.h7
  have l9 := L.h9
  have l10 := L.h10
  have L' := Lib.hid L
  clear L
  have hcase : (timesI (a * 65536 / b) b == a) = true ∨ (timesI (a * 65536 / b) b == a) = false := by cases (timesI (a * 65536 / b) b == a) <;> simp
  rcases hcase with hn | hn
  all_goals
    go_wp2_with (first
      | (go_at_call 14; refine (part_any _ _ _).mono ?_; rintro e w' ⟨rfl, rfl⟩; rw [L'.out.h4])
      | (go_at_call 16; refine (of_any _ _).mono ?_; rintro e w' ⟨rfl, rfl⟩)
      | (go_at_call 18; refine (times_any _ _ _).mono ?_; rintro e w' ⟨rfl, rfl⟩)
      | (go_at_call 22; refine (by_any _ _ _).mono ?_; rintro e w' ⟨rfl, rfl⟩)
      | (go_at_call 24; refine (int_any _ _).mono ?_; rintro e w' ⟨rfl, rfl⟩; rw [L'.out.h8])
      | (go_at_call 26; refine (div_any _ _ _).mono ?_; rintro e w' ⟨rfl, rfl⟩; rw [L'.out.h3])
      | (go_at_call 28; refine (add_any _ _ _).mono ?_; rintro e w' ⟨rfl, rfl⟩; try rw [L'.out.h1])
      | (go_at_call 30; refine (sub_any _ _ _).mono ?_; rintro e w' ⟨rfl, rfl⟩; rw [L'.out.h5])
      | (go_at_call 32; refine (mul_any _ _ _).mono ?_; rintro e w' ⟨rfl, rfl⟩; rw [L'.out.h2])
      | (go_at_call 13; refine (awake_any _).mono ?_; rintro e w' ⟨rfl, hb⟩))
    go_ret
    exact ⟨rfl, hb⟩

end Go.Proofs.Ythjfeodpfjejfaa
