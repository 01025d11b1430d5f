/- Contracts of num (chapter 1) and of the reference's numbers. -/
import Derived.Test.YtajhndakkaniaaaGreatDoorProg
import Derived.Test.YtajhndakkaniaaaGreatDoorLib
import Derived.Shelf.Bits.Mul64
namespace Go.Proofs.YtajhndakkaniaaaGreatDoor
open Go.RowKit

/-- held within 0 to T -/
def hold (n : Int) : Int := max 0 (min n 1125899906842624)
theorem hold_b (n : Int) : 0 ≤ hold n ∧ hold n ≤ 1125899906842624 := by unfold hold; omega
theorem hold_id (n : Int) (h : 0 ≤ n) (h' : n ≤ 1125899906842624) : hold n = n := by unfold hold; omega
def clampI (v l h : Int) : Int := if v < l then l else if h < v then h else v
theorem clamp_hold (n : Int) : clampI n 0 1125899906842624 = hold n := by
  unfold clampI hold
  split
  · omega
  · split <;> omega
def addI (a b : Int) : Int := hold (hold a + hold b)
def subI (a b : Int) : Int := hold (hold a - hold b)
def mulI (a b : Int) : Int := min (hold a * hold b) 1125899906842624
def timesI (a b : Int) : Int := min (hold a * hold b / 65536) 1125899906842624

theorem clamp_any (v l h : Int) (w : World) : Calls Tryz.prog 104 #[.int .i64 v, .int .i64 l, .int .i64 h] w fun e w' => e = .returned (.int .i64 (clampI v l h)) ∧ w = w' := by
  go_enter Tryz.func104, Tryz.ntmps104
  go_wp2
  all_goals (go_ret; refine ⟨ret_int ?_, rfl⟩; unfold clampI)
  all_goals first | rw [if_pos (by assumption)] | rw [if_neg (by omega), if_pos (by assumption)] | rw [if_neg (by omega), if_neg (by omega)]
theorem clampF_any (v l h : Int) (w : World) : Calls Tryz.prog 545 #[.int .i64 v, .int .i64 l, .int .i64 h] w fun e w' => e = .returned (.int .i64 (clampI v l h)) ∧ w = w' := by
  go_enter Tryz.func545, Tryz.ntmps545
  go_wp2
  all_goals (go_ret; refine ⟨ret_int ?_, rfl⟩; unfold clampI)
  all_goals first | rw [if_pos (by assumption)] | rw [if_neg (by omega), if_pos (by assumption)] | rw [if_neg (by omega), if_neg (by omega)]
theorem whole_any (n : Int) (w : World) : Calls Tryz.prog 97 #[.int .i64 n] w fun e w' => e = .returned (.int .i64 (hold n)) ∧ w = w' := by
  go_enter Tryz.func97, Tryz.ntmps97
  go_wp2_with (go_at_call 104; refine (clamp_any _ _ _ _).mono ?_; rintro e w' ⟨rfl, rfl⟩; rw [clamp_hold])
  go_ret
  exact ⟨rfl, rfl⟩
theorem add_any (a b : Int) (w : World) : Calls Tryz.prog 68 #[.int .i64 a, .int .i64 b] w fun e w' => e = .returned (.int .i64 (addI a b)) ∧ w = w' := by
  obtain ⟨a1, a2⟩ := hold_b a
  obtain ⟨b1, b2⟩ := hold_b b
  go_enter Tryz.func68, Tryz.ntmps68
  go_wp2_with (go_at_call 97; refine (whole_any _ _).mono ?_; rintro e w' ⟨rfl, rfl⟩)
  go_ret
  exact ⟨rfl, rfl⟩
theorem sub_any (a b : Int) (w : World) : Calls Tryz.prog 265 #[.int .i64 a, .int .i64 b] w fun e w' => e = .returned (.int .i64 (subI a b)) ∧ w = w' := by
  obtain ⟨a1, a2⟩ := hold_b a
  obtain ⟨b1, b2⟩ := hold_b b
  go_enter Tryz.func265, Tryz.ntmps265
  go_wp2_with (go_at_call 97; refine (whole_any _ _).mono ?_; rintro e w' ⟨rfl, rfl⟩)
  go_ret
  exact ⟨rfl, rfl⟩
theorem mul64_any (x y : Nat) (hx : x ≤ 1125899906842624) (hy : y ≤ 1125899906842624) (w : World) :
    Calls Tryz.prog 132 #[.int .u64 x, .int .u64 y] w fun e w' => e = .returned (.tuple #[.int .u64 ((x * y / 18446744073709551616 : Nat) : Int), .int .u64 ((x * y % 18446744073709551616 : Nat) : Int)]) ∧ w = w' := by
  obtain ⟨bd, bt, bw, hhi⟩ := Lib.mul64_hi x y (by omega) (by omega)
  have p1 : x / 4294967296 * (y / 4294967296) ≤ 262144 * 262144 := Nat.mul_le_mul (by omega) (by omega)
  have p2 : x / 4294967296 * (y % 4294967296) ≤ 262144 * 4294967296 := Nat.mul_le_mul (by omega) (by omega)
  have p3 : x % 4294967296 * (y / 4294967296) ≤ 4294967296 * 262144 := Nat.mul_le_mul (by omega) (by omega)
  have q1 : x / 4294967296 * (y / 4294967296) < 18446744073709551616 := by omega
  have q2 : x / 4294967296 * (y % 4294967296) < 18446744073709551616 := by omega
  have q3 : x % 4294967296 * (y / 4294967296) < 18446744073709551616 := by omega
  have q4 : x / 4294967296 * (y / 4294967296) + (x / 4294967296 * (y % 4294967296) + x % 4294967296 * (y % 4294967296) / 4294967296) / 4294967296 < 18446744073709551616 := by omega
  have q5 : x * y / 18446744073709551616 < 18446744073709551616 := by
    have h := Nat.mul_le_mul hx hy
    omega
  rw [← hhi] at q5
  go_enter Tryz.func132, Tryz.ntmps132
  go_wp2
  simp only [Mul64.maskN x (by omega), Mul64.maskN y (by omega), Mul64.divN, Mul64.mulN, Mul64.addN, Mul64.wrapN _ bd, Mul64.wrapN _ q2, Mul64.wrapN _ bt, Mul64.maskN _ bt, Mul64.wrapN _ q3, Mul64.wrapN _ bw, Mul64.wrapN _ q1, Mul64.wrapN _ q4, Mul64.wrapN _ q5, Mul64.wrapM (x * y)]
  rw [hhi]
  go_ret2
  exact ⟨rfl, rfl⟩
theorem or_disj (a b : Nat) (ha : a < 281474976710656) (hb : b < 65536) : bits .or .u64 (a : Int) (IntKind.u64.wrap ((b : Int) * 281474976710656)) = ((b * 281474976710656 + a : Nat) : Int) := by
  have e : (b : Int) * 281474976710656 = ((b * 281474976710656 : Nat) : Int) := by omega
  rw [e, Mul64.wrapN _ (by omega)]
  have h := bits_or_u64_nat a (b * 281474976710656) (by omega) (by omega)
  rw [h]
  have h2 : b * 281474976710656 = b <<< 48 := by rw [Nat.shiftLeft_eq]
  rw [h2, Nat.or_comm, ← Nat.shiftLeft_add_eq_or_of_lt (by simpa using ha)]
theorem product_num (p : Nat) (_ : p / 18446744073709551616 / 65536 = 0) : p / 18446744073709551616 * 281474976710656 + p % 18446744073709551616 / 65536 = p / 65536 := by omega
theorem product0_any (a b : Int) (ha : 0 ≤ a ∧ a ≤ 1125899906842624) (hb : 0 ≤ b ∧ b ≤ 1125899906842624) (w : World) : Calls Tryz.prog 99 #[.int .i64 a, .int .i64 b, .int .i64 0] w fun e w' => e = .returned (.int .i64 (min (a * b) 1125899906842624)) ∧ w = w' := by
  obtain ⟨x, rfl⟩ := Int.eq_ofNat_of_zero_le ha.1
  obtain ⟨y, rfl⟩ := Int.eq_ofNat_of_zero_le hb.1
  obtain ⟨_, hx⟩ := ha
  obtain ⟨_, hy⟩ := hb
  go_enter Tryz.func99, Tryz.ntmps99
  go_wp2_with (go_at_call 132; refine (mul64_any _ _ (by omega) (by omega) _).mono ?_; rintro e w' ⟨rfl, rfl⟩)
  all_goals (go_ret; refine ⟨ret_int ?_, rfl⟩; clear hx hy; rename_i hp; have hq : (0 : Int) ≤ (x : Int) * (y : Int) := Int.mul_nonneg (by omega) (by omega); generalize (x : Int) * (y : Int) = p at hp hq ⊢; omega)
theorem product16_any (a b : Int) (ha : 0 ≤ a ∧ a ≤ 1125899906842624) (hb : 0 ≤ b ∧ b ≤ 1125899906842624) (w : World) : Calls Tryz.prog 99 #[.int .i64 a, .int .i64 b, .int .i64 16] w fun e w' => e = .returned (.int .i64 (min (a * b / 65536) 1125899906842624)) ∧ w = w' := by
  obtain ⟨x, rfl⟩ := Int.eq_ofNat_of_zero_le ha.1
  obtain ⟨y, rfl⟩ := Int.eq_ofNat_of_zero_le hb.1
  obtain ⟨_, hx⟩ := ha
  obtain ⟨_, hy⟩ := hb
  go_enter Tryz.func99, Tryz.ntmps99
  go_wp2_with (go_at_call 132; refine (mul64_any _ _ (by omega) (by omega) _).mono ?_; rintro e w' ⟨rfl, rfl⟩)
  · go_ret
    refine ⟨ret_int ?_, rfl⟩
    clear hx hy
    rename_i hp
    generalize (x : Int) * (y : Int) = p at hp ⊢
    omega
  · go_ret
    refine ⟨ret_int ?_, rfl⟩
    clear hx hy
    rename_i hp
    rw [← Int.natCast_mul] at hp ⊢
    generalize x * y = p at hp ⊢
    have h1 : p / 18446744073709551616 / 65536 = 0 := by omega
    have e1 : (p : Int) % 18446744073709551616 / 65536 = ((p % 18446744073709551616 / 65536 : Nat) : Int) := by omega
    have e2 : (p : Int) / 18446744073709551616 = ((p / 18446744073709551616 : Nat) : Int) := by omega
    rw [e1, e2, or_disj _ _ (by omega) (by omega), product_num p h1]
    have e3 : ((p / 65536 : Nat) : Int) = (p : Int) / 65536 := by omega
    rw [e3]
    refine IntWalk.wrap64_in _ ?_
    omega
theorem mul_any (a b : Int) (w : World) : Calls Tryz.prog 70 #[.int .i64 a, .int .i64 b] w fun e w' => e = .returned (.int .i64 (mulI a b)) ∧ w = w' := by
  go_enter Tryz.func70, Tryz.ntmps70
  go_wp2_with (first
    | (go_at_call 97; refine (whole_any _ _).mono ?_; rintro e w' ⟨rfl, rfl⟩)
    | (go_at_call 99; refine (product0_any _ _ (hold_b a) (hold_b b) _).mono ?_; rintro e w' ⟨rfl, rfl⟩))
  go_ret
  exact ⟨rfl, rfl⟩
def divV (a b : Int) : Value := if b < 1 then .tuple #[.int .i64 0, .int .i64 1] else .tuple #[.int .i64 (hold a / b), .int .i64 0]
def ofI (n : Int) : Int := clampI n 0 17179869184 * 65536
theorem clamp34 (n : Int) : 0 ≤ clampI n 0 17179869184 ∧ clampI n 0 17179869184 ≤ 17179869184 := by
  unfold clampI
  split
  · omega
  · split <;> omega
theorem of_any (n : Int) (w : World) : Calls Tryz.prog 542 #[.int .i64 n] w fun e w' => e = .returned (.int .i64 (ofI n)) ∧ w = w' := by
  obtain ⟨a1, a2⟩ := clamp34 n
  go_enter Tryz.func542, Tryz.ntmps542
  go_wp2_with (go_at_call 104; refine (clamp_any _ _ _ _).mono ?_; rintro e w' ⟨rfl, rfl⟩)
  go_ret
  exact ⟨rfl, rfl⟩
def partV (a b : Int) : Value := if a < 0 ∨ b < 1 ∨ 17179869184 < a then .tuple #[.int .i64 0, .int .i64 1] else .tuple #[.int .i64 (a * 65536 / b), .int .i64 0]
theorem part_any (a b : Int) (w : World) : Calls Tryz.prog 547 #[.int .i64 a, .int .i64 b] w fun e w' => e = .returned (partV a b) ∧ w = w' := by
  by_cases hc : a < 0 ∨ b < 1 ∨ 17179869184 < a
  · have hf := Lib.hid (show partV a b = _ from if_pos hc)
    rcases hc with h | h | h
    all_goals
      go_enter Tryz.func547, Tryz.ntmps547
      go_wp2
      all_goals (go_ret2; exact ⟨by rw [hf.out]; rfl, rfl⟩)
  · have hf := Lib.hid (show partV a b = _ from if_neg hc)
    have h1 : 0 ≤ a := by omega
    have h2 : 1 ≤ b := by omega
    have h3 : a ≤ 17179869184 := by omega
    clear hc
    go_enter Tryz.func547, Tryz.ntmps547
    go_wp2
    go_ret2
    exact ⟨by rw [hf.out]; rfl, rfl⟩
theorem in_any (n : Int) (w : World) : Calls Tryz.prog 550 #[.int .i64 n] w fun e w' => e = .returned (.int .i64 (hold n)) ∧ w = w' := by
  go_enter Tryz.func550, Tryz.ntmps550
  go_wp2_with (go_at_call 545; refine (clampF_any _ _ _ _).mono ?_; rintro e w' ⟨rfl, rfl⟩; rw [clamp_hold])
  go_ret
  exact ⟨rfl, rfl⟩
theorem times_any (a b : Int) (w : World) : Calls Tryz.prog 551 #[.int .i64 a, .int .i64 b] w fun e w' => e = .returned (.int .i64 (timesI a b)) ∧ w = w' := by
  go_enter Tryz.func551, Tryz.ntmps551
  go_wp2_with (first
    | (go_at_call 550; refine (in_any _ _).mono ?_; rintro e w' ⟨rfl, rfl⟩)
    | (go_at_call 97; refine (whole_any _ _).mono ?_; rintro e w' ⟨rfl, rfl⟩)
    | (go_at_call 99; refine (product16_any _ _ (hold_b a) (hold_b b) _).mono ?_; rintro e w' ⟨rfl, rfl⟩))
  go_ret
  exact ⟨rfl, rfl⟩
theorem plus_any (a b : Int) (w : World) : Calls Tryz.prog 546 #[.int .i64 a, .int .i64 b] w fun e w' => e = .returned (.int .i64 (addI a b)) ∧ w = w' := by
  obtain ⟨a1, a2⟩ := hold_b a
  obtain ⟨b1, b2⟩ := hold_b b
  go_enter Tryz.func546, Tryz.ntmps546
  go_wp2_with (go_at_call 550; refine (in_any _ _).mono ?_; rintro e w' ⟨rfl, rfl⟩)
  go_ret
  exact ⟨rfl, rfl⟩
theorem times_hold (a b : Int) : timesI a (hold b) = timesI a b := by
  unfold timesI
  rw [hold_id (hold b) (hold_b b).1 (hold_b b).2]
theorem by_any (a b : Int) (w : World) : Calls Tryz.prog 548 #[.int .i64 a, .int .i64 b] w fun e w' => e = .returned (.int .i64 (timesI a b)) ∧ w = w' := by
  go_enter Tryz.func548, Tryz.ntmps548
  go_wp2_with (first
    | (go_at_call 550; refine (in_any _ _).mono ?_; rintro e w' ⟨rfl, rfl⟩)
    | (go_at_call 551; refine (times_any _ _ _).mono ?_; rintro e w' ⟨rfl, rfl⟩))
  go_ret
  exact ⟨by rw [← times_hold a b]; rfl, rfl⟩
theorem int_any (a : Int) (w : World) : Calls Tryz.prog 549 #[.int .i64 a] w fun e w' => e = .returned (.int .i64 (hold a / 65536)) ∧ w = w' := by
  obtain ⟨a1, a2⟩ := hold_b a
  go_enter Tryz.func549, Tryz.ntmps549
  go_wp2_with (go_at_call 550; refine (in_any _ _).mono ?_; rintro e w' ⟨rfl, rfl⟩)
  go_ret
  exact ⟨rfl, rfl⟩
/-! ### the least and the greatest of several -/
theorem rdInts2 {K : IntKind} {w : World} {x y : Int} {T : TypeId} {g : Nat} (hg : g = w.heap.size) : Rd (w.alloc (.cells #[.int K x, .int K y] T)) 1 (.slice (some ⟨g, 0, none⟩) 2 2) [x, y].length ([x, y].map (Value.int K)) := by
  subst hg
  exact .inr ⟨_, 2, rfl, by simp, by unfold Go.maxLen; omega, rfl, fun j u hj => by rw [addr_add]; exact cell_of_heap (heap_new w _) (by simpa using hj)⟩
theorem rdInts1 {K : IntKind} {w : World} {x : Int} {T : TypeId} {g : Nat} (hg : g = w.heap.size) : Rd (w.alloc (.cells #[.int K x] T)) 1 (.slice (some ⟨g, 0, none⟩) 1 1) [x].length ([x].map (Value.int K)) := by
  subst hg
  exact .inr ⟨_, 1, rfl, by simp, by unfold Go.maxLen; omega, rfl, fun j u hj => by rw [addr_add]; exact cell_of_heap (heap_new w _) (by simpa using hj)⟩
theorem fold_take (f : Int → Int → Int) (a : Int) (xs : List Int) (k : Nat) (h : k < xs.length) : (xs.take (k + 1)).foldl f a = f ((xs.take k).foldl f a) xs[k] := by
  rw [List.take_succ_eq_append_getElem h, List.foldl_append]; rfl
theorem Rd.at {K : IntKind} {w : World} {v : Option Addr} {cap : Nat} {xs : List Int} (h : Rd w 1 (.slice v xs.length cap) xs.length (xs.map (Value.int K))) : ∀ k : Nat, (hk : k < xs.length) → ∃ b o, v = .some ⟨b, o, none⟩ ∧ w.cell? ⟨b, o + k, none⟩ = .some (.int K xs[k]) := by
  intro k hk
  obtain ⟨b, o, c, he, _, _, _, hc⟩ := h.some (by omega) (by decide)
  cases he
  exact ⟨b, o, rfl, hc k _ (by simp [hk])⟩
theorem min_i64 (a : Int) (xs : List Int) (v : Value) (w : World) (h : Rd w 1 v xs.length (xs.map (Value.int .i64))) : Calls Tryz.prog 434 #[.int .i64 a, v] w fun e w' => e = .returned (.int .i64 (xs.foldl min a)) ∧ w = w' := by
  have hm := h.maxLen
  obtain ⟨v, cap, rfl, h1, h2⟩ := h.form
  have hc := Lib.hid h.at
  clear h
  go_enter Tryz.func434, Tryz.ntmps434
  go_wp2
  go_loop [0, 6, 9] (fun x _ i => ∃ k : Nat, k ≤ xs.length ∧ i = .int .i64 k ∧ x = .int .i64 ((xs.take k).foldl min a)) (fun _ _ i => xs.length - (intOf i).toNat)
  case atStart => exact ⟨0, Nat.zero_le _, rfl, rfl⟩
  case round =>
    obtain ⟨k, hk, rfl, rfl⟩ := hrel
    by_cases hlt : k < xs.length
    · obtain ⟨b, o, rfl, hcell⟩ := hc.out k hlt
      have hf := Lib.hid (fold_take min a xs k hlt)
      go_wp2
      go_round
      case rel => exact ⟨k + 1, by omega, by go_num, by rw [hf.out]⟩
      case measure => simp [intOf]; omega
    · go_wp2
      go_ret
      exact ⟨ret_int (by rw [List.take_of_length_le (by omega)]), rfl⟩
theorem min_u64 (a : Int) (xs : List Int) (v : Value) (w : World) (h : Rd w 1 v xs.length (xs.map (Value.int .u64))) : Calls Tryz.prog 316 #[.int .u64 a, v] w fun e w' => e = .returned (.int .u64 (xs.foldl min a)) ∧ w = w' := by
  have hm := h.maxLen
  obtain ⟨v, cap, rfl, h1, h2⟩ := h.form
  have hc := Lib.hid h.at
  clear h
  go_enter Tryz.func316, Tryz.ntmps316
  go_wp2
  go_loop [0, 6, 9] (fun x _ i => ∃ k : Nat, k ≤ xs.length ∧ i = .int .i64 k ∧ x = .int .u64 ((xs.take k).foldl min a)) (fun _ _ i => xs.length - (intOf i).toNat)
  case atStart => exact ⟨0, Nat.zero_le _, rfl, rfl⟩
  case round =>
    obtain ⟨k, hk, rfl, rfl⟩ := hrel
    by_cases hlt : k < xs.length
    · obtain ⟨b, o, rfl, hcell⟩ := hc.out k hlt
      have hf := Lib.hid (fold_take min a xs k hlt)
      go_wp2
      go_round
      case rel => exact ⟨k + 1, by omega, by go_num, by rw [hf.out]⟩
      case measure => simp [intOf]; omega
    · go_wp2
      go_ret
      exact ⟨ret_int (by rw [List.take_of_length_le (by omega)]), rfl⟩
/-! ### how many pieces a message has -/
def count (t m : Int) : Int := if t < 0 ∨ 1073741824 < t ∨ m < 1 ∨ 1048576 < m then 0 else max ((t + m - 1) / m) 1
theorem count_no (t m : Int) (h : t < 0 ∨ 1073741824 < t ∨ m < 1 ∨ 1048576 < m) : count t m = 0 := by unfold count; rw [if_pos h]
theorem count_yes (t m : Int) (h : ¬ (t < 0 ∨ 1073741824 < t ∨ m < 1 ∨ 1048576 < m)) : count t m = max ((t + m - 1) / m) 1 := by unfold count; rw [if_neg h]
theorem count_nonneg (t m : Int) : 0 ≤ count t m := by
  unfold count
  split
  · exact Int.le_refl _
  · omega
theorem count_any (t m : Int) (w : World) : Calls Tryz.prog 98 #[.int .i64 t, .int .i64 m] w fun e w' => e = .returned (.int .i64 (count t m)) ∧ w = w' := by
  go_enter Tryz.func98, Tryz.ntmps98
  go_wp2
  all_goals (go_ret; refine ⟨ret_int ?_, rfl⟩)
  all_goals first | rw [count_no _ _ (by omega)] | rw [count_yes _ _ (by omega)]
end Go.Proofs.YtajhndakkaniaaaGreatDoor
