/- A frame that came in. -/
import Derived.Test.YtaddbbbdklialaaWireChk
import Derived.Test.YtaddbbbdklialaaStruct
namespace Go.Proofs.Ytaddbbbdklialaa
open Go.ChangeShapes Go.WideShapes Go.ChangeAt Go.RowKit Go.Joins Go.Deep

theorem open_intsC {H : Type} {enc : TypeId × Value → H} {P : Program} {W : World} {t e : TypeId} {k : IntKind} {u : Value} {fuel : Nat} {y : DataW H × List MemPlace} (ht : P.underlying t = some (.slice e)) (he : P.underlying e = some (.int k)) (hc : P.cellsOf e = 1)
    (hf : DataW.trod enc P W 0 (fun _ => true) true fuel t [u] = some y) : ∃ zs : List Int, Rd W 1 u zs.length (zs.map (Value.int k)) ∧ ∀ n ∈ zs, (Lit.int k n).wf = true := by
  rcases open_ints ht he hc hf with ⟨hcs, _⟩ | ⟨x, l, c, zs, hcs, _, hl, hm, hz, _, hcell, hwz⟩
  · obtain rfl := (List.cons.inj hcs).1
    exact ⟨[], .inl ⟨rfl, rfl, rfl⟩, by simp⟩
  · obtain rfl := (List.cons.inj hcs).1
    simp at hz
    have hlen : (zs.take l).length = l := by rw [List.length_take]; omega
    refine ⟨zs.take l, .inr ⟨x, c, by rw [hlen], by omega, hm, by simp, ?_⟩, fun n hn => hwz n (List.mem_of_mem_take hn)⟩
    intro j u hj
    rw [List.getElem?_map, Option.map_eq_some_iff] at hj
    obtain ⟨q, hq, rfl⟩ := hj
    rw [List.getElem?_take] at hq
    split at hq
    · have hlt : j < zs.length := by omega
      rw [hcell j hlt]
      rw [List.getElem?_eq_getElem hlt] at hq
      simp at hq
      rw [List.getD_eq_getElem?_getD, List.getElem?_eq_getElem hlt, Option.getD_some, hq]
    · cases hq
theorem open_bytesC {H : Type} {enc : TypeId × Value → H} {P : Program} {W : World} {t e : TypeId} {u : Value} {fuel : Nat} {y : DataW H × List MemPlace} (ht : P.underlying t = some (.slice e)) (he : P.underlying e = some (.int .u8)) (hc : P.cellsOf e = 1)
    (hf : DataW.trod enc P W 0 (fun _ => true) true fuel t [u] = some y) : ∃ l : List UInt8, Rd W 1 u l.length (bcells l) := by
  obtain ⟨zs, h1, h2⟩ := open_intsC ht he hc hf
  obtain ⟨l, h3, h4⟩ := bytes_of_ints zs h2
  exact ⟨l, by rw [← h3, ← h4]; exact h1⟩
theorem open_frame {H : Type} {enc : TypeId × Value → H} {w : World} {r : Reach} {b0 : Nat} {v : Value} {d : DataW H} {p : List MemPlace}
    (hv : Value.okWide Try.prog w r b0 26 v) (h : DataW.Trod enc Try.prog w 0 (fun _ => true) true 26 v d p) :
    ∃ (x0 : Int) (x1 : Int) (x2 : Int) (x3 : Int) (x4 : Int) (x5 : Int) (x6 : Int) (x7 : Int) (x8 : Int) (z : Value) (l : List UInt8), v = .agg #[.int .i64 x0, .int .i64 x1, .int .i64 x2, .int .i64 x3, .int .u64 x4, .int .i64 x5, .int .i64 x6, .int .i64 x7, .int .i64 x8, z] ∧ (-9223372036854775808 ≤ x0 ∧ x0 ≤ 9223372036854775807) ∧ (-9223372036854775808 ≤ x1 ∧ x1 ≤ 9223372036854775807) ∧ (-9223372036854775808 ≤ x2 ∧ x2 ≤ 9223372036854775807) ∧ (-9223372036854775808 ≤ x3 ∧ x3 ≤ 9223372036854775807) ∧ (0 ≤ x4 ∧ x4 ≤ 18446744073709551615) ∧ (-9223372036854775808 ≤ x5 ∧ x5 ≤ 9223372036854775807) ∧ (-9223372036854775808 ≤ x6 ∧ x6 ≤ 9223372036854775807) ∧ (-9223372036854775808 ≤ x7 ∧ x7 ≤ 9223372036854775807) ∧ (-9223372036854775808 ≤ x8 ∧ x8 ≤ 9223372036854775807) ∧ Rd w 1 z l.length (bcells l) := by
  obtain ⟨q, rfl, hl, hf⟩ := open_agg Try.underlying26 (by kernel_rfl) (by kernel_rfl) hv h
  obtain ⟨u0, y0, m0, g0, t0⟩ := hf 0 _ rfl
  obtain ⟨x0, e0, _, w0⟩ := DataW.trod_int Try.underlying3 t0
  obtain rfl := (List.cons.inj e0).1
  obtain ⟨u1, y1, m1, g1, t1⟩ := hf 1 _ rfl
  obtain ⟨x1, e1, _, w1⟩ := DataW.trod_int Try.underlying3 t1
  obtain rfl := (List.cons.inj e1).1
  obtain ⟨u2, y2, m2, g2, t2⟩ := hf 2 _ rfl
  obtain ⟨x2, e2, _, w2⟩ := DataW.trod_int Try.underlying3 t2
  obtain rfl := (List.cons.inj e2).1
  obtain ⟨u3, y3, m3, g3, t3⟩ := hf 3 _ rfl
  obtain ⟨x3, e3, _, w3⟩ := DataW.trod_int Try.underlying3 t3
  obtain rfl := (List.cons.inj e3).1
  obtain ⟨u4, y4, m4, g4, t4⟩ := hf 4 _ rfl
  obtain ⟨x4, e4, _, w4⟩ := DataW.trod_int Try.underlying24 t4
  obtain rfl := (List.cons.inj e4).1
  obtain ⟨u5, y5, m5, g5, t5⟩ := hf 5 _ rfl
  obtain ⟨x5, e5, _, w5⟩ := DataW.trod_int Try.underlying3 t5
  obtain rfl := (List.cons.inj e5).1
  obtain ⟨u6, y6, m6, g6, t6⟩ := hf 6 _ rfl
  obtain ⟨x6, e6, _, w6⟩ := DataW.trod_int Try.underlying3 t6
  obtain rfl := (List.cons.inj e6).1
  obtain ⟨u7, y7, m7, g7, t7⟩ := hf 7 _ rfl
  obtain ⟨x7, e7, _, w7⟩ := DataW.trod_int Try.underlying3 t7
  obtain rfl := (List.cons.inj e7).1
  obtain ⟨u8, y8, m8, g8, t8⟩ := hf 8 _ rfl
  obtain ⟨x8, e8, _, w8⟩ := DataW.trod_int Try.underlying3 t8
  obtain rfl := (List.cons.inj e8).1
  obtain ⟨z, y, m, g, t⟩ := hf 9 _ rfl
  obtain ⟨l, hz⟩ := open_bytesC Try.underlying22 Try.underlying5 (by kernel_rfl) t
  obtain rfl : q = [.int .i64 x0, .int .i64 x1, .int .i64 x2, .int .i64 x3, .int .u64 x4, .int .i64 x5, .int .i64 x6, .int .i64 x7, .int .i64 x8, z] := by
    refine List.ext_getElem? fun j => ?_
    match j with
    | 0 => exact g0
    | 1 => exact g1
    | 2 => exact g2
    | 3 => exact g3
    | 4 => exact g4
    | 5 => exact g5
    | 6 => exact g6
    | 7 => exact g7
    | 8 => exact g8
    | 9 => exact g
    | j + 10 => rw [List.getElem?_eq_none (by rw [hl]; show 10 ≤ j + 10; omega), List.getElem?_eq_none (by simp)]
  exact ⟨x0, x1, x2, x3, x4, x5, x6, x7, x8, z, l, rfl, wf_i64 w0, wf_i64 w1, wf_i64 w2, wf_i64 w3, wf_u64 w4, wf_i64 w5, wf_i64 w6, wf_i64 w7, wf_i64 w8, hz⟩
theorem open_fr {H : Type} {enc : TypeId × Value → H} {w : World} {r : Reach} {b0 : Nat} {v : Value} {d : DataW H} {p : List MemPlace}
    (hv : Value.okWide Try.prog w r b0 26 v) (h : DataW.Trod enc Try.prog w 0 (fun _ => true) true 26 v d p) :
    ∃ (f : Fr) (z : Value), v = f.val z ∧ 0 ≤ f.msg ∧ Rd w 1 z f.data.length (bcells f.data) ∧ (-9223372036854775808 ≤ f.len ∧ f.len ≤ 9223372036854775807) := by
  obtain ⟨x0, x1, x2, x3, x4, x5, x6, x7, x8, z, l, rfl, _, _, _, _, h4, _, h6, _, _, hz⟩ := open_frame hv h
  exact ⟨⟨x0, x1, x2, x3, x4, x5, x6, x7, x8, l⟩, z, rfl, h4.1, hz, h6⟩
end Go.Proofs.Ytaddbbbdklialaa
