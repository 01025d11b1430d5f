/- What waits (chapter 2): plain facts. No walk. -/
import Derived.Test.YtlibnjhoggfhfaaIns
namespace Go.Proofs.Ytlibnjhoggfhfaa

structure Du where
  at' : Int
  id : Int
  v : Value
def Du.row (x : Du) : List Value := [.int .i64 x.at', .int .i64 x.id, x.v]
theorem rowDu (x : Du) : x.row.length = 3 := rfl
def Du.val (x : Du) : Value := .agg #[.int .i64 x.at', .int .i64 x.id, x.v]
theorem one_du {l : List Du} (h : ∀ x ∈ l, x.v.oneCell' = true) : ∀ u ∈ l.flatMap Du.row, u.oneCell' = true := by
  intro u hu
  rw [List.mem_flatMap] at hu
  obtain ⟨x, hx, hu⟩ := hu
  simp only [Du.row, List.mem_cons, List.not_mem_nil, or_false] at hu
  rcases hu with rfl | rfl | rfl
  · rfl
  · rfl
  · exact h x hx
/-- which comes first: a number below 0, 0 or above -/
def cmpI (a b : Int) : Int := if a < b then -1 else if b < a then 1 else 0
def orV (a b : Int) : Int := if a = 0 then b else a
def Du.cmp (x d : Du) : Int := orV (cmpI x.at' d.at') (cmpI x.id d.id)
def Du.lt (x d : Du) : Prop := x.at' < d.at' ∨ (x.at' = d.at' ∧ x.id < d.id)
theorem cmp_lt (x d : Du) : x.cmp d < 0 ↔ x.lt d := by
  unfold Du.cmp Du.lt orV cmpI
  repeat' split
  all_goals omega
end Go.Proofs.Ytlibnjhoggfhfaa
