/- The law PullsPlays (chapter 18): its steps; whatever comes. -/
import Derived.Test.YtohjnplhmbfjlaaPuPl
import Derived.Test.YtohjnplhmbfjlaaStruct
import Derived.Test.YtohjnplhmbfjlaaFrame
namespace Go.Proofs.Ytohjnplhmbfjlaa
open Go.ChangeShapes Go.WideShapes Go.ChangeAt Go.RowKit Go.Joins Go.Deep

def Stp.good (s : Stp) : Prop := (-9223372036854775808 ≤ s.kind ∧ s.kind ≤ 9223372036854775807) ∧ (-9223372036854775808 ≤ s.peer ∧ s.peer ≤ 9223372036854775807) ∧ (0 ≤ s.id ∧ s.id ≤ 18446744073709551615) ∧ (-9223372036854775808 ≤ s.n ∧ s.n ≤ 9223372036854775807)
theorem open_steps {H : Type} {enc : TypeId × Value → H} {W : World} {r : Reach} {b0 : Nat} {v : Value} {d : DataW H} {p : List MemPlace}
    (hv : Value.okWide Try.prog W r b0 34 v) (h : DataW.Trod enc Try.prog W 0 (fun _ => true) true 34 v d p) : ∃ l : List Stp, Rd W 4 v l.length (l.flatMap Stp.row) ∧ ∀ x ∈ l, x.good := by
  refine open_rowsR Stp.row Stp.good 4 (fun _ => rfl) Try.underlying34 Try.underlying42 (by kernel_rfl) (by kernel_rfl) rfl hv (fun u hf => ?_) h
  obtain ⟨y0, m0, t0⟩ := hf 0 _ rfl
  obtain ⟨x0, e0, _, w0⟩ := DataW.trod_int Try.underlying3 t0
  replace e0 := (List.cons.inj e0).1
  obtain ⟨y1, m1, t1⟩ := hf 1 _ rfl
  obtain ⟨x1, e1, _, w1⟩ := DataW.trod_int Try.underlying3 t1
  replace e1 := (List.cons.inj e1).1
  obtain ⟨y2, m2, t2⟩ := hf 2 _ rfl
  obtain ⟨x2, e2, _, w2⟩ := DataW.trod_int Try.underlying28 t2
  replace e2 := (List.cons.inj e2).1
  obtain ⟨y3, m3, t3⟩ := hf 3 _ rfl
  obtain ⟨x3, e3, _, w3⟩ := DataW.trod_int Try.underlying3 t3
  replace e3 := (List.cons.inj e3).1
  refine ⟨⟨x0, x1, x2, x3⟩, ⟨wf_i64 w0, wf_i64 w1, wf_u64 w2, wf_i64 w3⟩, fun j hj => ?_⟩
  match j, hj with
  | 0, _ => rw [e0]; rfl
  | 1, _ => rw [e1]; rfl
  | 2, _ => rw [e2]; rfl
  | 3, _ => rw [e3]; rfl
  | j + 4, hj => omega
set_option maxRecDepth 100000 in
theorem plays_any (most : Int) (l : List Stp) (v : Value) (w : World) (h : Rd w 4 v l.length (l.flatMap Stp.row)) : Calls Try.prog 4 #[.int .i64 most, v] w (TrueBelow w) := by
  by_cases hc : l.length ≤ 100 ∧ 1 ≤ most ∧ most ≤ 10000
  · exact plays_in most l v w h hc.1 hc.2.1 hc.2.2
  · obtain ⟨a, c, rfl, hlc, hcm⟩ := h.form
    clear h
    by_cases hl : l.length ≤ 100
    · have hm : ¬ (1 ≤ most ∧ most ≤ 10000) := fun hm => hc ⟨hl, hm⟩
      have HM := Lib.hid hm
      clear hc
      rcases (by omega : most < 1 ∨ (1 ≤ most ∧ 10000 < most)) with h1 | ⟨h1, h2⟩
      all_goals
        try have hd1 : decide (1 ≤ most) = false := decide_eq_false (by omega)
        try have hd1 : decide (1 ≤ most) = true := decide_eq_true (by omega)
        try have hd2 : decide (most ≤ 10000) = false := decide_eq_false (by omega)
        clear hm
        go_enter Try.func4, Try.ntmps4
        go_wp2_with fail
        refine (newno_pu most w HM.out).mono ?_
        rintro e wa ⟨rfl, rfl⟩
        go_wp2_with fail
        refine (awake_any _).mono ?_
        rintro e w2 ⟨rfl, hb⟩
        go_wp2_with fail
        go_ret
        exact ⟨rfl, hb⟩
    · have hl' : 100 < l.length := by omega
      clear hc hl
      go_enter Try.func4, Try.ntmps4
      go_wp2_with fail
      refine (awake_any _).mono ?_
      rintro e w2 ⟨rfl, hb⟩
      go_wp2_with fail
      go_ret
      exact ⟨rfl, hb⟩
end Go.Proofs.Ytohjnplhmbfjlaa
