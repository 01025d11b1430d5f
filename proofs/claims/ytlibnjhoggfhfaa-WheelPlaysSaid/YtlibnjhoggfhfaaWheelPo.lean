/- Opening of a slice of steps (chapter 2). -/
import Derived.Test.YtlibnjhoggfhfaaStruct
import Derived.Test.YtlibnjhoggfhfaaFrame
import Derived.Test.YtlibnjhoggfhfaaProg
namespace Go.Proofs.Ytlibnjhoggfhfaa
open Go.ChangeShapes Go.WideShapes Go.ChangeAt Go.RowKit Go.Joins

structure Stp where
  kind : Int
  at' : Int
  v : Int
  n : Int
def Stp.row (s : Stp) : List Value := [.int .i64 s.kind, .int .i64 s.at', .int .i64 s.v, .int .i64 s.n]
def Stp.good (s : Stp) : Prop := (-9223372036854775808 ≤ s.kind ∧ s.kind ≤ 9223372036854775807) ∧ (-9223372036854775808 ≤ s.at' ∧ s.at' ≤ 9223372036854775807) ∧ (-9223372036854775808 ≤ s.v ∧ s.v ≤ 9223372036854775807) ∧ (-9223372036854775808 ≤ s.n ∧ s.n ≤ 9223372036854775807)
theorem open_stp {H : Type} {enc : TypeId × Value → H} {W : World} {r : Reach} {b0 : Nat} {v : Value} {d : DataW H} {p : List MemPlace}
    (hv : Value.okWide Try.prog W r b0 40 v) (h : DataW.Trod enc Try.prog W 0 (fun _ => true) true 40 v d p) : ∃ l : List Stp, Rd W 4 v l.length (l.flatMap Stp.row) ∧ ∀ x ∈ l, x.good := by
  refine open_rowsR Stp.row Stp.good 4 (fun _ => rfl) Try.underlying40 Try.underlying46 (by kernel_rfl) (by kernel_rfl) rfl hv (fun u hf => ?_) h
  obtain ⟨y0, m0, t0⟩ := hf 0 _ rfl
  obtain ⟨x0, e0, _, w0⟩ := DataW.trod_int Try.underlying3 t0
  replace e0 := (List.cons.inj e0).1
  obtain ⟨y1, m1, t1⟩ := hf 1 _ rfl
  obtain ⟨x1, e1, _, w1⟩ := DataW.trod_int Try.underlying3 t1
  replace e1 := (List.cons.inj e1).1
  obtain ⟨y2, m2, t2⟩ := hf 2 _ rfl
  obtain ⟨x2, e2, _, w2⟩ := DataW.trod_int Try.underlying3 t2
  replace e2 := (List.cons.inj e2).1
  obtain ⟨y3, m3, t3⟩ := hf 3 _ rfl
  obtain ⟨x3, e3, _, w3⟩ := DataW.trod_int Try.underlying3 t3
  replace e3 := (List.cons.inj e3).1
  refine ⟨⟨x0, x1, x2, x3⟩, ⟨wf_i64 w0, wf_i64 w1, wf_i64 w2, wf_i64 w3⟩, fun j hj => ?_⟩
  match j, hj with
  | 0, _ => rw [e0]; rfl
  | 1, _ => rw [e1]; rfl
  | 2, _ => rw [e2]; rfl
  | 3, _ => rw [e3]; rfl
  | j + 4, hj => omega
end Go.Proofs.Ytlibnjhoggfhfaa
