/- Opening of a slice of ranges (chapter 5). -/
import Derived.Test.YtafielokhkoadaaIvP
import Derived.Test.YtafielokhkoadaaStruct
import Derived.Test.YtafielokhkoadaaFrame
import Derived.Test.YtafielokhkoadaaProg
namespace Go.Proofs.Ytafielokhkoadaa
open Go.ChangeShapes Go.WideShapes Go.ChangeAt Go.RowKit Go.Joins

def Rg.good (s : Rg) : Prop := (-9223372036854775808 ≤ s.f ∧ s.f ≤ 9223372036854775807) ∧ (-9223372036854775808 ≤ s.t ∧ s.t ≤ 9223372036854775807)
theorem open_rg {H : Type} {enc : TypeId × Value → H} {W : World} {r : Reach} {b0 : Nat} {v : Value} {d : DataW H} {p : List MemPlace}
    (hv : Value.okWide Try.prog W r b0 22 v) (h : DataW.Trod enc Try.prog W 0 (fun _ => true) true 22 v d p) : ∃ l : List Rg, Rd W 2 v l.length (l.flatMap Rg.row) ∧ ∀ x ∈ l, x.good := by
  refine open_rowsR Rg.row Rg.good 2 (fun _ => rfl) Try.underlying22 Try.underlying31 (by kernel_rfl) (by kernel_rfl) rfl hv (fun u hf => ?_) h
  obtain ⟨y0, m0, t0⟩ := hf 0 _ rfl
  obtain ⟨x0, e0, _, w0⟩ := DataW.trod_int Try.underlying3 t0
  replace e0 := (List.cons.inj e0).1
  obtain ⟨y1, m1, t1⟩ := hf 1 _ rfl
  obtain ⟨x1, e1, _, w1⟩ := DataW.trod_int Try.underlying3 t1
  replace e1 := (List.cons.inj e1).1
  refine ⟨⟨x0, x1⟩, ⟨wf_i64 w0, wf_i64 w1⟩, fun j hj => ?_⟩
  match j, hj with
  | 0, _ => rw [e0]; rfl
  | 1, _ => rw [e1]; rfl
  | j + 2, hj => omega
end Go.Proofs.Ytafielokhkoadaa
