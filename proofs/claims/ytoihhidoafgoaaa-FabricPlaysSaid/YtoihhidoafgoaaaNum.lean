/- Contracts of num (chapter 1) and of the reference's numbers. -/
import Derived.Test.YtoihhidoafgoaaaProg
import Derived.Test.YtoihhidoafgoaaaLib
import Derived.Shelf.Bits.Mul64
namespace Go.Proofs.Ytoihhidoafgoaaa
open Go.RowKit

/-- held within 0 to T -/
def hold (n : Int) : Int := max 0 (min n 1125899906842624)
theorem hold_b (n : Int) : 0 ≤ hold n ∧ hold n ≤ 1125899906842624 := by unfold hold; omega
theorem hold_id (n : Int) (h : 0 ≤ n) (h' : n ≤ 1125899906842624) : hold n = n := by unfold hold; omega
def clampI (v l h : Int) : Int := if v < l then l else if h < v then h else v
theorem clamp_hold (n : Int) : clampI n 0 1125899906842624 = hold n := by
  unfold clampI hold
  split
  · omega
  · split <;> omega
def addI (a b : Int) : Int := hold (hold a + hold b)
def subI (a b : Int) : Int := hold (hold a - hold b)
def mulI (a b : Int) : Int := min (hold a * hold b) 1125899906842624
def timesI (a b : Int) : Int := min (hold a * hold b / 65536) 1125899906842624

theorem clamp_any (v l h : Int) (w : World) : Calls Try.prog 67 #[.int .i64 v, .int .i64 l, .int .i64 h] w fun e w' => e = .returned (.int .i64 (clampI v l h)) ∧ w = w' := by
  go_enter Try.func67, Try.ntmps67
  go_wp2
  all_goals (go_ret; refine ⟨ret_int ?_, rfl⟩; unfold clampI)
  all_goals first | rw [if_pos (by assumption)] | rw [if_neg (by omega), if_pos (by assumption)] | rw [if_neg (by omega), if_neg (by omega)]
theorem clamp_ref (v l h : Int) (w : World) : Calls Try.prog 85 #[.int .i64 v, .int .i64 l, .int .i64 h] w fun e w' => e = .returned (.int .i64 (clampI v l h)) ∧ w = w' := by
  go_enter Try.func85, Try.ntmps85
  go_wp2
  all_goals (go_ret; refine ⟨ret_int ?_, rfl⟩; unfold clampI)
  all_goals first | rw [if_pos (by assumption)] | rw [if_neg (by omega), if_pos (by assumption)] | rw [if_neg (by omega), if_neg (by omega)]
def divV (a b : Int) : Value := if b < 1 then .tuple #[.int .i64 0, .int .i64 1] else .tuple #[.int .i64 (hold a / b), .int .i64 0]
def ofI (n : Int) : Int := clampI n 0 17179869184 * 65536
theorem clamp34 (n : Int) : 0 ≤ clampI n 0 17179869184 ∧ clampI n 0 17179869184 ≤ 17179869184 := by
  unfold clampI
  split
  · omega
  · split <;> omega
def partV (a b : Int) : Value := if a < 0 ∨ b < 1 ∨ 17179869184 < a then .tuple #[.int .i64 0, .int .i64 1] else .tuple #[.int .i64 (a * 65536 / b), .int .i64 0]
/-! ### the least and the greatest of several -/
theorem rdInts2 {K : IntKind} {w : World} {x y : Int} {T : TypeId} {g : Nat} (hg : g = w.heap.size) : Rd (w.alloc (.cells #[.int K x, .int K y] T)) 1 (.slice (some ⟨g, 0, none⟩) 2 2) [x, y].length ([x, y].map (Value.int K)) := by
  subst hg
  exact .inr ⟨_, 2, rfl, by simp, by unfold Go.maxLen; omega, rfl, fun j u hj => by rw [addr_add]; exact cell_of_heap (heap_new w _) (by simpa using hj)⟩
theorem rdInts1 {K : IntKind} {w : World} {x : Int} {T : TypeId} {g : Nat} (hg : g = w.heap.size) : Rd (w.alloc (.cells #[.int K x] T)) 1 (.slice (some ⟨g, 0, none⟩) 1 1) [x].length ([x].map (Value.int K)) := by
  subst hg
  exact .inr ⟨_, 1, rfl, by simp, by unfold Go.maxLen; omega, rfl, fun j u hj => by rw [addr_add]; exact cell_of_heap (heap_new w _) (by simpa using hj)⟩
theorem fold_take (f : Int → Int → Int) (a : Int) (xs : List Int) (k : Nat) (h : k < xs.length) : (xs.take (k + 1)).foldl f a = f ((xs.take k).foldl f a) xs[k] := by
  rw [List.take_succ_eq_append_getElem h, List.foldl_append]; rfl
theorem Rd.at {K : IntKind} {w : World} {v : Option Addr} {cap : Nat} {xs : List Int} (h : Rd w 1 (.slice v xs.length cap) xs.length (xs.map (Value.int K))) : ∀ k : Nat, (hk : k < xs.length) → ∃ b o, v = .some ⟨b, o, none⟩ ∧ w.cell? ⟨b, o + k, none⟩ = .some (.int K xs[k]) := by
  intro k hk
  obtain ⟨b, o, c, he, _, _, _, hc⟩ := h.some (by omega) (by decide)
  cases he
  exact ⟨b, o, rfl, hc k _ (by simp [hk])⟩
/-! ### how many pieces a message has -/
def count (t m : Int) : Int := if t < 0 ∨ 1073741824 < t ∨ m < 1 ∨ 1048576 < m then 0 else max ((t + m - 1) / m) 1
theorem count_no (t m : Int) (h : t < 0 ∨ 1073741824 < t ∨ m < 1 ∨ 1048576 < m) : count t m = 0 := by unfold count; rw [if_pos h]
theorem count_yes (t m : Int) (h : ¬ (t < 0 ∨ 1073741824 < t ∨ m < 1 ∨ 1048576 < m)) : count t m = max ((t + m - 1) / m) 1 := by unfold count; rw [if_neg h]
theorem count_nonneg (t m : Int) : 0 ≤ count t m := by
  unfold count
  split
  · exact Int.le_refl _
  · omega
end Go.Proofs.Ytoihhidoafgoaaa
