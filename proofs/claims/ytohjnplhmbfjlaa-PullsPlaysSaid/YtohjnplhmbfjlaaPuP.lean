/- Who waits (chapter 18): plain facts. No walk. -/
import Derived.Test.YtohjnplhmbfjlaaIns
namespace Go.Proofs.Ytohjnplhmbfjlaa

structure Fl where
  id : Int
  wt : Int
  pl : Int
def Fl.row (x : Fl) : List Value := [.int .u64 x.id, .int .i64 x.wt, .int .i64 x.pl]
theorem rowFl (x : Fl) : x.row.length = 3 := rfl
def Fl.val (x : Fl) : Value := .agg #[.int .u64 x.id, .int .i64 x.wt, .int .i64 x.pl]
theorem one_fl (l : List Fl) : ∀ u ∈ l.flatMap Fl.row, u.oneCell' = true := by
  intro u hu
  rw [List.mem_flatMap] at hu
  obtain ⟨x, hx, hu⟩ := hu
  simp only [Fl.row, List.mem_cons, List.not_mem_nil, or_false] at hu
  rcases hu with rfl | rfl | rfl <;> rfl
def cmpI (a b : Int) : Int := if a < b then -1 else if b < a then 1 else 0
theorem cmpI_neg {a b : Int} : cmpI a b < 0 ↔ a < b := by
  unfold cmpI
  repeat' split
  all_goals omega
theorem cmpI_zero {a b : Int} : cmpI a b = 0 ↔ a = b := by
  unfold cmpI
  repeat' split
  all_goals omega
theorem cmpI_nonneg {a b : Int} : 0 ≤ cmpI a b ↔ b ≤ a := by
  unfold cmpI
  repeat' split
  all_goals omega
end Go.Proofs.Ytohjnplhmbfjlaa
