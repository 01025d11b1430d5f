/- Contracts of num (chapter 1) and of the reference's numbers. -/
import Derived.Test.YtocopgmbfmechaaProg
import Derived.Test.YtocopgmbfmechaaLib
import Derived.Shelf.Bits.Mul64
namespace Go.Proofs.Ytocopgmbfmechaa
open Go.RowKit

/-- held within 0 to T -/
def hold (n : Int) : Int := max 0 (min n 1125899906842624)
theorem hold_b (n : Int) : 0 ≤ hold n ∧ hold n ≤ 1125899906842624 := by unfold hold; omega
theorem hold_id (n : Int) (h : 0 ≤ n) (h' : n ≤ 1125899906842624) : hold n = n := by unfold hold; omega
def clampI (v l h : Int) : Int := if v < l then l else if h < v then h else v
theorem clamp_hold (n : Int) : clampI n 0 1125899906842624 = hold n := by
  unfold clampI hold
  split
  · omega
  · split <;> omega
def addI (a b : Int) : Int := hold (hold a + hold b)
def subI (a b : Int) : Int := hold (hold a - hold b)
def mulI (a b : Int) : Int := min (hold a * hold b) 1125899906842624
def timesI (a b : Int) : Int := min (hold a * hold b / 65536) 1125899906842624

theorem clamp_any (v l h : Int) (w : World) : Calls Try.prog 20 #[.int .i64 v, .int .i64 l, .int .i64 h] w fun e w' => e = .returned (.int .i64 (clampI v l h)) ∧ w = w' := by
  go_enter Try.func20, Try.ntmps20
  go_wp2
  all_goals (go_ret; refine ⟨ret_int ?_, rfl⟩; unfold clampI)
  all_goals first | rw [if_pos (by assumption)] | rw [if_neg (by omega), if_pos (by assumption)] | rw [if_neg (by omega), if_neg (by omega)]
theorem clampF_any (v l h : Int) (w : World) : Calls Try.prog 24 #[.int .i64 v, .int .i64 l, .int .i64 h] w fun e w' => e = .returned (.int .i64 (clampI v l h)) ∧ w = w' := by
  go_enter Try.func24, Try.ntmps24
  go_wp2
  all_goals (go_ret; refine ⟨ret_int ?_, rfl⟩; unfold clampI)
  all_goals first | rw [if_pos (by assumption)] | rw [if_neg (by omega), if_pos (by assumption)] | rw [if_neg (by omega), if_neg (by omega)]
theorem clamp_ref (v l h : Int) (w : World) : Calls Try.prog 25 #[.int .i64 v, .int .i64 l, .int .i64 h] w fun e w' => e = .returned (.int .i64 (clampI v l h)) ∧ w = w' := by
  go_enter Try.func25, Try.ntmps25
  go_wp2
  all_goals (go_ret; refine ⟨ret_int ?_, rfl⟩; unfold clampI)
  all_goals first | rw [if_pos (by assumption)] | rw [if_neg (by omega), if_pos (by assumption)] | rw [if_neg (by omega), if_neg (by omega)]
theorem whole_any (n : Int) (w : World) : Calls Try.prog 36 #[.int .i64 n] w fun e w' => e = .returned (.int .i64 (hold n)) ∧ w = w' := by
  go_enter Try.func36, Try.ntmps36
  go_wp2_with (go_at_call 20; refine (clamp_any _ _ _ _).mono ?_; rintro e w' ⟨rfl, rfl⟩; rw [clamp_hold])
  go_ret
  exact ⟨rfl, rfl⟩
theorem hold_ref (n : Int) (w : World) : Calls Try.prog 34 #[.int .i64 n] w fun e w' => e = .returned (.int .i64 (hold n)) ∧ w = w' := by
  go_enter Try.func34, Try.ntmps34
  go_wp2_with (go_at_call 25; refine (clamp_ref _ _ _ _).mono ?_; rintro e w' ⟨rfl, rfl⟩; rw [clamp_hold])
  go_ret
  exact ⟨rfl, rfl⟩
theorem add_ref (a b : Int) (w : World) : Calls Try.prog 32 #[.int .i64 a, .int .i64 b] w fun e w' => e = .returned (.int .i64 (addI a b)) ∧ w = w' := by
  obtain ⟨a1, a2⟩ := hold_b a
  obtain ⟨b1, b2⟩ := hold_b b
  go_enter Try.func32, Try.ntmps32
  go_wp2_with (go_at_call 34; refine (hold_ref _ _).mono ?_; rintro e w' ⟨rfl, rfl⟩)
  go_ret
  exact ⟨rfl, rfl⟩
theorem mul64_any (x y : Nat) (hx : x ≤ 1125899906842624) (hy : y ≤ 1125899906842624) (w : World) :
    Calls Try.prog 37 #[.int .u64 x, .int .u64 y] w fun e w' => e = .returned (.tuple #[.int .u64 ((x * y / 18446744073709551616 : Nat) : Int), .int .u64 ((x * y % 18446744073709551616 : Nat) : Int)]) ∧ w = w' := by
  obtain ⟨bd, bt, bw, hhi⟩ := Lib.mul64_hi x y (by omega) (by omega)
  have p1 : x / 4294967296 * (y / 4294967296) ≤ 262144 * 262144 := Nat.mul_le_mul (by omega) (by omega)
  have p2 : x / 4294967296 * (y % 4294967296) ≤ 262144 * 4294967296 := Nat.mul_le_mul (by omega) (by omega)
  have p3 : x % 4294967296 * (y / 4294967296) ≤ 4294967296 * 262144 := Nat.mul_le_mul (by omega) (by omega)
  have q1 : x / 4294967296 * (y / 4294967296) < 18446744073709551616 := by omega
  have q2 : x / 4294967296 * (y % 4294967296) < 18446744073709551616 := by omega
  have q3 : x % 4294967296 * (y / 4294967296) < 18446744073709551616 := by omega
  have q4 : x / 4294967296 * (y / 4294967296) + (x / 4294967296 * (y % 4294967296) + x % 4294967296 * (y % 4294967296) / 4294967296) / 4294967296 < 18446744073709551616 := by omega
  have q5 : x * y / 18446744073709551616 < 18446744073709551616 := by
    have h := Nat.mul_le_mul hx hy
    omega
  rw [← hhi] at q5
  go_enter Try.func37, Try.ntmps37
  go_wp2
  simp only [Mul64.maskN x (by omega), Mul64.maskN y (by omega), Mul64.divN, Mul64.mulN, Mul64.addN, Mul64.wrapN _ bd, Mul64.wrapN _ q2, Mul64.wrapN _ bt, Mul64.maskN _ bt, Mul64.wrapN _ q3, Mul64.wrapN _ bw, Mul64.wrapN _ q1, Mul64.wrapN _ q4, Mul64.wrapN _ q5, Mul64.wrapM (x * y)]
  rw [hhi]
  go_ret2
  exact ⟨rfl, rfl⟩
theorem or_disj (a b : Nat) (ha : a < 281474976710656) (hb : b < 65536) : bits .or .u64 (a : Int) (IntKind.u64.wrap ((b : Int) * 281474976710656)) = ((b * 281474976710656 + a : Nat) : Int) := by
  have e : (b : Int) * 281474976710656 = ((b * 281474976710656 : Nat) : Int) := by omega
  rw [e, Mul64.wrapN _ (by omega)]
  have h := bits_or_u64_nat a (b * 281474976710656) (by omega) (by omega)
  rw [h]
  have h2 : b * 281474976710656 = b <<< 48 := by rw [Nat.shiftLeft_eq]
  rw [h2, Nat.or_comm, ← Nat.shiftLeft_add_eq_or_of_lt (by simpa using ha)]
theorem product_num (p : Nat) (_ : p / 18446744073709551616 / 65536 = 0) : p / 18446744073709551616 * 281474976710656 + p % 18446744073709551616 / 65536 = p / 65536 := by omega
theorem product0_any (a b : Int) (ha : 0 ≤ a ∧ a ≤ 1125899906842624) (hb : 0 ≤ b ∧ b ≤ 1125899906842624) (w : World) : Calls Try.prog 35 #[.int .i64 a, .int .i64 b, .int .i64 0] w fun e w' => e = .returned (.int .i64 (min (a * b) 1125899906842624)) ∧ w = w' := by
  obtain ⟨x, rfl⟩ := Int.eq_ofNat_of_zero_le ha.1
  obtain ⟨y, rfl⟩ := Int.eq_ofNat_of_zero_le hb.1
  obtain ⟨_, hx⟩ := ha
  obtain ⟨_, hy⟩ := hb
  go_enter Try.func35, Try.ntmps35
  go_wp2_with (go_at_call 37; refine (mul64_any _ _ (by omega) (by omega) _).mono ?_; rintro e w' ⟨rfl, rfl⟩)
  all_goals (go_ret; refine ⟨ret_int ?_, rfl⟩; clear hx hy; rename_i hp; have hq : (0 : Int) ≤ (x : Int) * (y : Int) := Int.mul_nonneg (by omega) (by omega); generalize (x : Int) * (y : Int) = p at hp hq ⊢; omega)
theorem product16_any (a b : Int) (ha : 0 ≤ a ∧ a ≤ 1125899906842624) (hb : 0 ≤ b ∧ b ≤ 1125899906842624) (w : World) : Calls Try.prog 35 #[.int .i64 a, .int .i64 b, .int .i64 16] w fun e w' => e = .returned (.int .i64 (min (a * b / 65536) 1125899906842624)) ∧ w = w' := by
  obtain ⟨x, rfl⟩ := Int.eq_ofNat_of_zero_le ha.1
  obtain ⟨y, rfl⟩ := Int.eq_ofNat_of_zero_le hb.1
  obtain ⟨_, hx⟩ := ha
  obtain ⟨_, hy⟩ := hb
  go_enter Try.func35, Try.ntmps35
  go_wp2_with (go_at_call 37; refine (mul64_any _ _ (by omega) (by omega) _).mono ?_; rintro e w' ⟨rfl, rfl⟩)
  · go_ret
    refine ⟨ret_int ?_, rfl⟩
    clear hx hy
    rename_i hp
    generalize (x : Int) * (y : Int) = p at hp ⊢
    omega
  · go_ret
    refine ⟨ret_int ?_, rfl⟩
    clear hx hy
    rename_i hp
    rw [← Int.natCast_mul] at hp ⊢
    generalize x * y = p at hp ⊢
    have h1 : p / 18446744073709551616 / 65536 = 0 := by omega
    have e1 : (p : Int) % 18446744073709551616 / 65536 = ((p % 18446744073709551616 / 65536 : Nat) : Int) := by omega
    have e2 : (p : Int) / 18446744073709551616 = ((p / 18446744073709551616 : Nat) : Int) := by omega
    rw [e1, e2, or_disj _ _ (by omega) (by omega), product_num p h1]
    have e3 : ((p / 65536 : Nat) : Int) = (p : Int) / 65536 := by omega
    rw [e3]
    refine IntWalk.wrap64_in _ ?_
    omega
def divV (a b : Int) : Value := if b < 1 then .tuple #[.int .i64 0, .int .i64 1] else .tuple #[.int .i64 (hold a / b), .int .i64 0]
def ofI (n : Int) : Int := clampI n 0 17179869184 * 65536
theorem clamp34 (n : Int) : 0 ≤ clampI n 0 17179869184 ∧ clampI n 0 17179869184 ≤ 17179869184 := by
  unfold clampI
  split
  · omega
  · split <;> omega
theorem of_any (n : Int) (w : World) : Calls Try.prog 18 #[.int .i64 n] w fun e w' => e = .returned (.int .i64 (ofI n)) ∧ w = w' := by
  obtain ⟨a1, a2⟩ := clamp34 n
  go_enter Try.func18, Try.ntmps18
  go_wp2_with (go_at_call 20; refine (clamp_any _ _ _ _).mono ?_; rintro e w' ⟨rfl, rfl⟩)
  go_ret
  exact ⟨rfl, rfl⟩
theorem of_ref (n : Int) (w : World) : Calls Try.prog 17 #[.int .i64 n] w fun e w' => e = .returned (.int .i64 (ofI n)) ∧ w = w' := by
  obtain ⟨a1, a2⟩ := clamp34 n
  go_enter Try.func17, Try.ntmps17
  go_wp2_with (go_at_call 25; refine (clamp_ref _ _ _ _).mono ?_; rintro e w' ⟨rfl, rfl⟩)
  go_ret
  exact ⟨rfl, rfl⟩
def partV (a b : Int) : Value := if a < 0 ∨ b < 1 ∨ 17179869184 < a then .tuple #[.int .i64 0, .int .i64 1] else .tuple #[.int .i64 (a * 65536 / b), .int .i64 0]
theorem part_any (a b : Int) (w : World) : Calls Try.prog 21 #[.int .i64 a, .int .i64 b] w fun e w' => e = .returned (partV a b) ∧ w = w' := by
  by_cases hc : a < 0 ∨ b < 1 ∨ 17179869184 < a
  · have hf := Lib.hid (show partV a b = _ from if_pos hc)
    rcases hc with h | h | h
    all_goals
      go_enter Try.func21, Try.ntmps21
      go_wp2
      all_goals (go_ret2; exact ⟨by rw [hf.out]; rfl, rfl⟩)
  · have hf := Lib.hid (show partV a b = _ from if_neg hc)
    have h1 : 0 ≤ a := by omega
    have h2 : 1 ≤ b := by omega
    have h3 : a ≤ 17179869184 := by omega
    clear hc
    go_enter Try.func21, Try.ntmps21
    go_wp2
    go_ret2
    exact ⟨by rw [hf.out]; rfl, rfl⟩
theorem part_ref (a b : Int) (w : World) : Calls Try.prog 26 #[.int .i64 a, .int .i64 b] w fun e w' => e = .returned (partV a b) ∧ w = w' := by
  by_cases hc : a < 0 ∨ b < 1 ∨ 17179869184 < a
  · have hf := Lib.hid (show partV a b = _ from if_pos hc)
    rcases hc with h | h | h
    all_goals
      go_enter Try.func26, Try.ntmps26
      go_wp2
      all_goals (go_ret2; exact ⟨by rw [hf.out]; rfl, rfl⟩)
  · have hf := Lib.hid (show partV a b = _ from if_neg hc)
    have h1 : 0 ≤ a := by omega
    have h2 : 1 ≤ b := by omega
    have h3 : a ≤ 17179869184 := by omega
    clear hc
    go_enter Try.func26, Try.ntmps26
    go_wp2
    go_ret2
    exact ⟨by rw [hf.out]; rfl, rfl⟩
theorem in_any (n : Int) (w : World) : Calls Try.prog 29 #[.int .i64 n] w fun e w' => e = .returned (.int .i64 (hold n)) ∧ w = w' := by
  go_enter Try.func29, Try.ntmps29
  go_wp2_with (go_at_call 24; refine (clampF_any _ _ _ _).mono ?_; rintro e w' ⟨rfl, rfl⟩; rw [clamp_hold])
  go_ret
  exact ⟨rfl, rfl⟩
theorem times_any (a b : Int) (w : World) : Calls Try.prog 31 #[.int .i64 a, .int .i64 b] w fun e w' => e = .returned (.int .i64 (timesI a b)) ∧ w = w' := by
  go_enter Try.func31, Try.ntmps31
  go_wp2_with (first
    | (go_at_call 29; refine (in_any _ _).mono ?_; rintro e w' ⟨rfl, rfl⟩)
    | (go_at_call 36; refine (whole_any _ _).mono ?_; rintro e w' ⟨rfl, rfl⟩)
    | (go_at_call 35; refine (product16_any _ _ (hold_b a) (hold_b b) _).mono ?_; rintro e w' ⟨rfl, rfl⟩))
  go_ret
  exact ⟨rfl, rfl⟩
theorem plus_any (a b : Int) (w : World) : Calls Try.prog 30 #[.int .i64 a, .int .i64 b] w fun e w' => e = .returned (.int .i64 (addI a b)) ∧ w = w' := by
  obtain ⟨a1, a2⟩ := hold_b a
  obtain ⟨b1, b2⟩ := hold_b b
  go_enter Try.func30, Try.ntmps30
  go_wp2_with (go_at_call 29; refine (in_any _ _).mono ?_; rintro e w' ⟨rfl, rfl⟩)
  go_ret
  exact ⟨rfl, rfl⟩
theorem times_hold (a b : Int) : timesI a (hold b) = timesI a b := by
  unfold timesI
  rw [hold_id (hold b) (hold_b b).1 (hold_b b).2]
theorem by_any (a b : Int) (w : World) : Calls Try.prog 23 #[.int .i64 a, .int .i64 b] w fun e w' => e = .returned (.int .i64 (timesI a b)) ∧ w = w' := by
  go_enter Try.func23, Try.ntmps23
  go_wp2_with (first
    | (go_at_call 29; refine (in_any _ _).mono ?_; rintro e w' ⟨rfl, rfl⟩)
    | (go_at_call 31; refine (times_any _ _ _).mono ?_; rintro e w' ⟨rfl, rfl⟩))
  go_ret
  exact ⟨by rw [← times_hold a b]; rfl, rfl⟩
theorem int_any (a : Int) (w : World) : Calls Try.prog 19 #[.int .i64 a] w fun e w' => e = .returned (.int .i64 (hold a / 65536)) ∧ w = w' := by
  obtain ⟨a1, a2⟩ := hold_b a
  go_enter Try.func19, Try.ntmps19
  go_wp2_with (go_at_call 29; refine (in_any _ _).mono ?_; rintro e w' ⟨rfl, rfl⟩)
  go_ret
  exact ⟨rfl, rfl⟩
theorem plus_ref (a b : Int) (w : World) : Calls Try.prog 27 #[.int .i64 a, .int .i64 b] w fun e w' => e = .returned (.int .i64 (addI a b)) ∧ w = w' := by
  go_enter Try.func27, Try.ntmps27
  go_wp2_with (go_at_call 32; refine (add_ref _ _ _).mono ?_; rintro e w' ⟨rfl, rfl⟩)
  go_ret
  exact ⟨rfl, rfl⟩
theorem and25 (a : Int) (h0 : 0 ≤ a) (h1 : a ≤ 1125899906842624) : bits .and .i64 a 33554431 = a % 33554432 := by
  obtain ⟨x, rfl⟩ := Int.eq_ofNat_of_zero_le h0
  have e1 : (BitVec.ofInt 64 (x : Int)).toNat = x := by
    rw [BitVec.ofInt_natCast, BitVec.toNat_ofNat]; exact Nat.mod_eq_of_lt (by omega)
  have e2 : (BitVec.ofInt 64 (33554431 : Int)).toNat = 33554431 := by decide
  show IntKind.i64.wrap ((BitVec.ofInt 64 (x : Int) &&& BitVec.ofInt 64 33554431).toNat : Int) = _
  have e3 : x &&& 33554431 = x % 33554432 := Nat.and_two_pow_sub_one_eq_mod x 25
  rw [BitVec.toNat_and, e1, e2, e3, IntKind.wrap_i64]
  omega
theorem over_ref (a b : Int) (ha : 0 ≤ a ∧ a ≤ 1125899906842624) (hb : 0 ≤ b ∧ b ≤ 1125899906842624) (w : World) : Calls Try.prog 33 #[.int .i64 a, .int .i64 b] w fun e w' => e = .returned (.int .i64 (min (a * b / 65536) 1125899906842624)) ∧ w = w' := by
  obtain ⟨h, hh⟩ : ∃ h, a / 33554432 = h := ⟨_, rfl⟩
  obtain ⟨l, hl⟩ : ∃ l, a % 33554432 = l := ⟨_, rfl⟩
  obtain ⟨m, hm⟩ : ∃ m, b / 33554432 = m := ⟨_, rfl⟩
  obtain ⟨n, hn⟩ : ∃ n, b % 33554432 = n := ⟨_, rfl⟩
  have bh : 0 ≤ h ∧ h ≤ 33554432 := by omega
  have bl : 0 ≤ l ∧ l ≤ 33554431 := by omega
  have bm : 0 ≤ m ∧ m ≤ 33554432 := by omega
  have bn : 0 ≤ n ∧ n ≤ 33554431 := by omega
  have ea : a = h * 33554432 + l := by omega
  have eb : b = m * 33554432 + n := by omega
  have eab : a * b = h * m * 1125899906842624 + (h * n + l * m) * 33554432 + l * n := by
    rw [ea, eb]
    simp only [Int.add_mul, Int.mul_add]
    have e1 : h * 33554432 * (m * 33554432) = h * m * 1125899906842624 := by
      rw [Int.mul_assoc, Int.mul_left_comm 33554432 m 33554432, ← Int.mul_assoc h m]; rfl
    have e2 : h * 33554432 * n = h * n * 33554432 := by rw [Int.mul_assoc, Int.mul_comm 33554432 n, ← Int.mul_assoc]
    have e3 : l * (m * 33554432) = l * m * 33554432 := by rw [← Int.mul_assoc]
    rw [e1, e2, e3]; omega
  have p1 : 0 ≤ h * m ∧ h * m ≤ 33554432 * 33554432 := ⟨Int.mul_nonneg bh.1 bm.1, Int.mul_le_mul bh.2 bm.2 bm.1 (by decide)⟩
  have p2 : 0 ≤ h * n ∧ h * n ≤ 33554432 * 33554431 := ⟨Int.mul_nonneg bh.1 bn.1, Int.mul_le_mul bh.2 bn.2 bn.1 (by decide)⟩
  have p3 : 0 ≤ l * m ∧ l * m ≤ 33554431 * 33554432 := ⟨Int.mul_nonneg bl.1 bm.1, Int.mul_le_mul bl.2 bm.2 bm.1 (by decide)⟩
  have p4 : 0 ≤ l * n ∧ l * n ≤ 33554431 * 33554431 := ⟨Int.mul_nonneg bl.1 bn.1, Int.mul_le_mul bl.2 bn.2 bn.1 (by decide)⟩
  obtain ⟨p1a, p1b⟩ := p1
  obtain ⟨p2a, p2b⟩ := p2
  obtain ⟨p3a, p3b⟩ := p3
  obtain ⟨p4a, p4b⟩ := p4
  obtain ⟨ha1, ha2⟩ := ha
  obtain ⟨hb1, hb2⟩ := hb
  have na : bits .and .i64 a 33554431 = l := by rw [and25 a ha1 ha2, hl]
  have nb : bits .and .i64 b 33554431 = n := by rw [and25 b hb1 hb2, hn]
  have EAB := Lib.hid eab
  clear ea eb eab hl hn bh bl bm bn
  by_cases hbig : 65536 ≤ h * m
  · go_enter Try.func33, Try.ntmps33
    go_wp2_with fail
    go_ret
    refine ⟨ret_int ?_, rfl⟩
    rw [EAB.out]; clear hh hm na nb; omega
  · go_enter Try.func33, Try.ntmps33
    go_wp2_with (go_at_call 34; refine (hold_ref _ _).mono ?_; rintro e w' ⟨rfl, rfl⟩)
    go_ret
    refine ⟨ret_int ?_, rfl⟩
    rw [EAB.out]; clear hh hm na nb; unfold hold; omega
theorem by_ref (a b : Int) (w : World) : Calls Try.prog 28 #[.int .i64 a, .int .i64 b] w fun e w' => e = .returned (.int .i64 (timesI a b)) ∧ w = w' := by
  go_enter Try.func28, Try.ntmps28
  go_wp2_with (first
    | (go_at_call 34; refine (hold_ref _ _).mono ?_; rintro e w' ⟨rfl, rfl⟩)
    | (go_at_call 33; refine (over_ref _ _ (hold_b a) (hold_b b) _).mono ?_; rintro e w' ⟨rfl, rfl⟩))
  go_ret
  exact ⟨rfl, rfl⟩
/-! ### the least and the greatest of several -/
theorem rdInts2 {K : IntKind} {w : World} {x y : Int} {T : TypeId} {g : Nat} (hg : g = w.heap.size) : Rd (w.alloc (.cells #[.int K x, .int K y] T)) 1 (.slice (some ⟨g, 0, none⟩) 2 2) [x, y].length ([x, y].map (Value.int K)) := by
  subst hg
  exact .inr ⟨_, 2, rfl, by simp, by unfold Go.maxLen; omega, rfl, fun j u hj => by rw [addr_add]; exact cell_of_heap (heap_new w _) (by simpa using hj)⟩
theorem rdInts1 {K : IntKind} {w : World} {x : Int} {T : TypeId} {g : Nat} (hg : g = w.heap.size) : Rd (w.alloc (.cells #[.int K x] T)) 1 (.slice (some ⟨g, 0, none⟩) 1 1) [x].length ([x].map (Value.int K)) := by
  subst hg
  exact .inr ⟨_, 1, rfl, by simp, by unfold Go.maxLen; omega, rfl, fun j u hj => by rw [addr_add]; exact cell_of_heap (heap_new w _) (by simpa using hj)⟩
theorem fold_take (f : Int → Int → Int) (a : Int) (xs : List Int) (k : Nat) (h : k < xs.length) : (xs.take (k + 1)).foldl f a = f ((xs.take k).foldl f a) xs[k] := by
  rw [List.take_succ_eq_append_getElem h, List.foldl_append]; rfl
theorem Rd.at {K : IntKind} {w : World} {v : Option Addr} {cap : Nat} {xs : List Int} (h : Rd w 1 (.slice v xs.length cap) xs.length (xs.map (Value.int K))) : ∀ k : Nat, (hk : k < xs.length) → ∃ b o, v = .some ⟨b, o, none⟩ ∧ w.cell? ⟨b, o + k, none⟩ = .some (.int K xs[k]) := by
  intro k hk
  obtain ⟨b, o, c, he, _, _, _, hc⟩ := h.some (by omega) (by decide)
  cases he
  exact ⟨b, o, rfl, hc k _ (by simp [hk])⟩
/-! ### how many pieces a message has -/
def count (t m : Int) : Int := if t < 0 ∨ 1073741824 < t ∨ m < 1 ∨ 1048576 < m then 0 else max ((t + m - 1) / m) 1
theorem count_no (t m : Int) (h : t < 0 ∨ 1073741824 < t ∨ m < 1 ∨ 1048576 < m) : count t m = 0 := by unfold count; rw [if_pos h]
theorem count_yes (t m : Int) (h : ¬ (t < 0 ∨ 1073741824 < t ∨ m < 1 ∨ 1048576 < m)) : count t m = max ((t + m - 1) / m) 1 := by unfold count; rw [if_neg h]
theorem count_nonneg (t m : Int) : 0 ≤ count t m := by
  unfold count
  split
  · exact Int.le_refl _
  · omega
end Go.Proofs.Ytocopgmbfmechaa
