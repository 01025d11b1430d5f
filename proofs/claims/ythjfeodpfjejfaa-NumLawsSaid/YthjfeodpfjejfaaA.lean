/- The laws of num, walked. -/
import Derived.Test.YthjfeodpfjejfaaNum
import Derived.Test.YthjfeodpfjejfaaOrd
namespace Go.Proofs.Ythjfeodpfjejfaa
open Go.RowKit

set_option maxHeartbeats 400000 in
theorem awake_any (w : World) : Calls Try.prog 13 #[] w (TrueBelow w) := by
  have p1 : partV 1 2 = .tuple #[.int .i64 32768, .int .i64 0] := by kernel_rfl
  have p2 : partV 1 0 = .tuple #[.int .i64 0, .int .i64 1] := by kernel_rfl
  have p3 : timesI 32768 7 = 3 := by decide
  go_enter Try.func13, Try.ntmps13
  go_wp2_with (first
    | (go_at_call 14; refine (part_any _ _ _).mono ?_; rintro e w' ⟨rfl, rfl⟩; first | rw [p1] | rw [p2])
    | (go_at_call 18; refine (times_any _ _ _).mono ?_; rintro e w' ⟨rfl, rfl⟩; rw [p3])
    | (go_at_call 36; refine (min_i64 _ [1, 2] _ _ (rdInts2 (by simp))).mono ?_; rintro e w' ⟨rfl, rfl⟩)
    | (go_at_call 8; refine (max_u64 _ [9] _ _ (rdInts1 (by simp))).mono ?_; rintro e w' ⟨rfl, rfl⟩))
  go_ret
  exact ⟨rfl, ((Below.refl _ _).alloc (Nat.le_refl _) _).alloc (by simp) _⟩

set_option maxRecDepth 100000 in
set_option maxHeartbeats 1000000 in
theorem asks_any (a b c : Int) (w : World) : Calls Try.prog 5 #[.int .i64 a, .int .i64 b, .int .i64 c] w (TrueBelow w) := by
  obtain ⟨d, f, hd⟩ : ∃ d f, divV a b = .tuple #[.int .i64 d, .int .i64 f] := by unfold divV; split <;> exact ⟨_, _, rfl⟩
  have HD := Lib.hid hd
  clear hd
  go_enter Try.func5, Try.ntmps5
  go_wp2_with (first
    | (go_at_call 26; refine (div_any _ _ _).mono ?_; rintro e w' ⟨rfl, rfl⟩; rw [HD.out])
    | (go_at_call 27; refine (div_ref _ _ _).mono ?_; rintro e w' ⟨rfl, rfl⟩; rw [HD.out])
    | (go_at_call 28; refine (add_any _ _ _).mono ?_; rintro e w' ⟨rfl, rfl⟩)
    | (go_at_call 29; refine (add_ref _ _ _).mono ?_; rintro e w' ⟨rfl, rfl⟩)
    | (go_at_call 30; refine (sub_any _ _ _).mono ?_; rintro e w' ⟨rfl, rfl⟩)
    | (go_at_call 31; refine (sub_ref _ _ _).mono ?_; rintro e w' ⟨rfl, rfl⟩)
    | (go_at_call 32; refine (mul_any _ _ _).mono ?_; rintro e w' ⟨rfl, rfl⟩)
    | (go_at_call 33; refine (mul_ref _ _ _).mono ?_; rintro e w' ⟨rfl, rfl⟩)
    | (go_at_call 34; refine (clamp_any _ _ _ _).mono ?_; rintro e w' ⟨rfl, rfl⟩)
    | (go_at_call 35; refine (clamp_ref _ _ _ _).mono ?_; rintro e w' ⟨rfl, rfl⟩)
    | (go_at_call 36; refine (min_i64 _ [b, c] _ _ (rdInts2 (by simp))).mono ?_; rintro e w' ⟨rfl, rfl⟩)
    | (go_at_call 37; refine (max_i64 _ [b, c] _ _ (rdInts2 (by simp))).mono ?_; rintro e w' ⟨rfl, rfl⟩)
    | (go_at_call 13; refine (awake_any _).mono ?_; rintro e w' ⟨rfl, hb⟩))
  go_ret
  exact ⟨rfl, (((Below.refl _ _).alloc (Nat.le_refl _) _).alloc (by simp) _).trans (hb.mono (by simp; omega))⟩
end Go.Proofs.Ythjfeodpfjejfaa
