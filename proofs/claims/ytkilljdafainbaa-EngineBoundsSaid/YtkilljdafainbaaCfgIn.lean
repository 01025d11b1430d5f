/- A config that came in. -/
import Derived.Test.YtkilljdafainbaaCfg
import Derived.Test.YtkilljdafainbaaStruct
namespace Go.Proofs.Ytkilljdafainbaa
open Go.ChangeShapes Go.WideShapes Go.ChangeAt Go.RowKit Go.Joins Go.Deep

theorem open_cfgv {H : Type} {enc : TypeId × Value → H} {w : World} {r : Reach} {b0 : Nat} {v : Value} {d : DataW H} {p : List MemPlace}
    (hv : Value.okWide Try.prog w r b0 24 v) (h : DataW.Trod enc Try.prog w 0 (fun _ => true) true 24 v d p) :
    ∃ (x0 : Int) (x1 : Int) (x2 : Int) (x3 : Int) (x4 : Int) (x5 : Int) (x6 : Int) (x7 : Int) (x8 : Int) (x9 : Int) (x10 : Int) (x11 : Int) (x12 : Int) (x13 : Int), v = .agg #[.int .i64 x0, .int .i64 x1, .int .i64 x2, .int .i64 x3, .int .i64 x4, .int .i64 x5, .int .i64 x6, .int .i64 x7, .int .i64 x8, .int .i64 x9, .int .i64 x10, .int .i64 x11, .int .i64 x12, .int .u64 x13] ∧ (-9223372036854775808 ≤ x0 ∧ x0 ≤ 9223372036854775807) ∧ (-9223372036854775808 ≤ x1 ∧ x1 ≤ 9223372036854775807) ∧ (-9223372036854775808 ≤ x2 ∧ x2 ≤ 9223372036854775807) ∧ (-9223372036854775808 ≤ x3 ∧ x3 ≤ 9223372036854775807) ∧ (-9223372036854775808 ≤ x4 ∧ x4 ≤ 9223372036854775807) ∧ (-9223372036854775808 ≤ x5 ∧ x5 ≤ 9223372036854775807) ∧ (-9223372036854775808 ≤ x6 ∧ x6 ≤ 9223372036854775807) ∧ (-9223372036854775808 ≤ x7 ∧ x7 ≤ 9223372036854775807) ∧ (-9223372036854775808 ≤ x8 ∧ x8 ≤ 9223372036854775807) ∧ (-9223372036854775808 ≤ x9 ∧ x9 ≤ 9223372036854775807) ∧ (-9223372036854775808 ≤ x10 ∧ x10 ≤ 9223372036854775807) ∧ (-9223372036854775808 ≤ x11 ∧ x11 ≤ 9223372036854775807) ∧ (-9223372036854775808 ≤ x12 ∧ x12 ≤ 9223372036854775807) ∧ (0 ≤ x13 ∧ x13 ≤ 18446744073709551615) := by
  obtain ⟨q, rfl, hl, hf⟩ := open_agg Try.underlying24 (by kernel_rfl) (by kernel_rfl) hv h
  obtain ⟨u0, y0, m0, g0, t0⟩ := hf 0 _ rfl
  obtain ⟨x0, e0, _, w0⟩ := DataW.trod_int Try.underlying3 t0
  obtain rfl := (List.cons.inj e0).1
  obtain ⟨u1, y1, m1, g1, t1⟩ := hf 1 _ rfl
  obtain ⟨x1, e1, _, w1⟩ := DataW.trod_int Try.underlying3 t1
  obtain rfl := (List.cons.inj e1).1
  obtain ⟨u2, y2, m2, g2, t2⟩ := hf 2 _ rfl
  obtain ⟨x2, e2, _, w2⟩ := DataW.trod_int Try.underlying3 t2
  obtain rfl := (List.cons.inj e2).1
  obtain ⟨u3, y3, m3, g3, t3⟩ := hf 3 _ rfl
  obtain ⟨x3, e3, _, w3⟩ := DataW.trod_int Try.underlying3 t3
  obtain rfl := (List.cons.inj e3).1
  obtain ⟨u4, y4, m4, g4, t4⟩ := hf 4 _ rfl
  obtain ⟨x4, e4, _, w4⟩ := DataW.trod_int Try.underlying3 t4
  obtain rfl := (List.cons.inj e4).1
  obtain ⟨u5, y5, m5, g5, t5⟩ := hf 5 _ rfl
  obtain ⟨x5, e5, _, w5⟩ := DataW.trod_int Try.underlying3 t5
  obtain rfl := (List.cons.inj e5).1
  obtain ⟨u6, y6, m6, g6, t6⟩ := hf 6 _ rfl
  obtain ⟨x6, e6, _, w6⟩ := DataW.trod_int Try.underlying3 t6
  obtain rfl := (List.cons.inj e6).1
  obtain ⟨u7, y7, m7, g7, t7⟩ := hf 7 _ rfl
  obtain ⟨x7, e7, _, w7⟩ := DataW.trod_int Try.underlying3 t7
  obtain rfl := (List.cons.inj e7).1
  obtain ⟨u8, y8, m8, g8, t8⟩ := hf 8 _ rfl
  obtain ⟨x8, e8, _, w8⟩ := DataW.trod_int Try.underlying3 t8
  obtain rfl := (List.cons.inj e8).1
  obtain ⟨u9, y9, m9, g9, t9⟩ := hf 9 _ rfl
  obtain ⟨x9, e9, _, w9⟩ := DataW.trod_int Try.underlying3 t9
  obtain rfl := (List.cons.inj e9).1
  obtain ⟨u10, y10, m10, g10, t10⟩ := hf 10 _ rfl
  obtain ⟨x10, e10, _, w10⟩ := DataW.trod_int Try.underlying3 t10
  obtain rfl := (List.cons.inj e10).1
  obtain ⟨u11, y11, m11, g11, t11⟩ := hf 11 _ rfl
  obtain ⟨x11, e11, _, w11⟩ := DataW.trod_int Try.underlying3 t11
  obtain rfl := (List.cons.inj e11).1
  obtain ⟨u12, y12, m12, g12, t12⟩ := hf 12 _ rfl
  obtain ⟨x12, e12, _, w12⟩ := DataW.trod_int Try.underlying3 t12
  obtain rfl := (List.cons.inj e12).1
  obtain ⟨u13, y13, m13, g13, t13⟩ := hf 13 _ rfl
  obtain ⟨x13, e13, _, w13⟩ := DataW.trod_int Try.underlying22 t13
  obtain rfl := (List.cons.inj e13).1
  obtain rfl : q = [.int .i64 x0, .int .i64 x1, .int .i64 x2, .int .i64 x3, .int .i64 x4, .int .i64 x5, .int .i64 x6, .int .i64 x7, .int .i64 x8, .int .i64 x9, .int .i64 x10, .int .i64 x11, .int .i64 x12, .int .u64 x13] := by
    refine List.ext_getElem? fun j => ?_
    match j with
    | 0 => exact g0
    | 1 => exact g1
    | 2 => exact g2
    | 3 => exact g3
    | 4 => exact g4
    | 5 => exact g5
    | 6 => exact g6
    | 7 => exact g7
    | 8 => exact g8
    | 9 => exact g9
    | 10 => exact g10
    | 11 => exact g11
    | 12 => exact g12
    | 13 => exact g13
    | j + 14 => rw [List.getElem?_eq_none (by rw [hl]; show 14 ≤ j + 14; omega), List.getElem?_eq_none (by simp)]
  exact ⟨x0, x1, x2, x3, x4, x5, x6, x7, x8, x9, x10, x11, x12, x13, rfl, wf_i64 w0, wf_i64 w1, wf_i64 w2, wf_i64 w3, wf_i64 w4, wf_i64 w5, wf_i64 w6, wf_i64 w7, wf_i64 w8, wf_i64 w9, wf_i64 w10, wf_i64 w11, wf_i64 w12, wf_u64 w13⟩

theorem open_cfg {H : Type} {enc : TypeId × Value → H} {w : World} {r : Reach} {b0 : Nat} {v : Value} {d : DataW H} {p : List MemPlace}
    (hv : Value.okWide Try.prog w r b0 24 v) (h : DataW.Trod enc Try.prog w 0 (fun _ => true) true 24 v d p) :
    ∃ c : Cfg, v = .agg c.cells := by
  obtain ⟨x0, x1, x2, x3, x4, x5, x6, x7, x8, x9, x10, x11, x12, x13, rfl, _⟩ := open_cfgv hv h
  exact ⟨⟨x0, x1, x2, x3, x4, x5, x6, x7, x8, x9, x10, x11, x12, x13⟩, rfl⟩
end Go.Proofs.Ytkilljdafainbaa
