/- The fabric (chapter 15): the steps that come in. -/
import Derived.Test.YtoihhidoafgoaaaFaZ
import Derived.Test.YtoihhidoafgoaaaStruct
namespace Go.Proofs.Ytoihhidoafgoaaa
open Go.ChangeShapes Go.WideShapes Go.ChangeAt Go.RowKit Go.Joins Go.Deep

theorem open_intsC {H : Type} {enc : TypeId × Value → H} {P : Program} {W : World} {t e : TypeId} {k : IntKind} {u : Value} {fuel : Nat} {y : DataW H × List MemPlace} (ht : P.underlying t = some (.slice e)) (he : P.underlying e = some (.int k)) (hc : P.cellsOf e = 1)
    (hf : DataW.trod enc P W 0 (fun _ => true) true fuel t [u] = some y) : ∃ zs : List Int, Rd W 1 u zs.length (zs.map (Value.int k)) ∧ ∀ n ∈ zs, (Lit.int k n).wf = true := by
  rcases open_ints ht he hc hf with ⟨hcs, _⟩ | ⟨x, l, c, zs, hcs, _, hl, hm, hz, _, hcell, hwz⟩
  · obtain rfl := (List.cons.inj hcs).1
    exact ⟨[], .inl ⟨rfl, rfl, rfl⟩, by simp⟩
  · obtain rfl := (List.cons.inj hcs).1
    simp at hz
    have hlen : (zs.take l).length = l := by rw [List.length_take]; omega
    refine ⟨zs.take l, .inr ⟨x, c, by rw [hlen], by omega, hm, by simp, ?_⟩, fun n hn => hwz n (List.mem_of_mem_take hn)⟩
    intro j u hj
    rw [List.getElem?_map, Option.map_eq_some_iff] at hj
    obtain ⟨q, hq, rfl⟩ := hj
    rw [List.getElem?_take] at hq
    split at hq
    · have hlt : j < zs.length := by omega
      rw [hcell j hlt]
      rw [List.getElem?_eq_getElem hlt] at hq
      simp at hq
      rw [List.getD_eq_getElem?_getD, List.getElem?_eq_getElem hlt, Option.getD_some, hq]
    · cases hq
theorem open_bytesC {H : Type} {enc : TypeId × Value → H} {P : Program} {W : World} {t e : TypeId} {u : Value} {fuel : Nat} {y : DataW H × List MemPlace} (ht : P.underlying t = some (.slice e)) (he : P.underlying e = some (.int .u8)) (hc : P.cellsOf e = 1)
    (hf : DataW.trod enc P W 0 (fun _ => true) true fuel t [u] = some y) : ∃ l : List UInt8, Rd W 1 u l.length (bcells l) := by
  obtain ⟨zs, h1, h2⟩ := open_intsC ht he hc hf
  obtain ⟨l, h3, h4⟩ := bytes_of_ints zs h2
  exact ⟨l, by rw [← h3, ← h4]; exact h1⟩
/-- a slice of structs, each read as a whole -/
theorem open_rowsX {α : Type} (row : α → List Value) (good : α → Prop) (k : Nat) (hrow : ∀ x, (row x).length = k) {H : Type} {enc : TypeId × Value → H} {P : Program} {W : World} {t e : TypeId} {v : Value} {d : DataW H} {ps : List MemPlace} (ht : P.underlying t = some (.slice e)) 
    (hC : P.cellsOf e = k) {r : Reach} {b0 : Nat} (hv : Value.okWide P W r b0 t v)
    (hread : ∀ (cs : List Value) (y : DataW H × List MemPlace) (m : Nat), cs.length = k → DataW.trod enc P W 0 (fun _ => true) true m e cs = some y → ∃ x, good x ∧ ∀ j, j < k → (row x)[j]? = cs[j]?)
    (h : DataW.Trod enc P W 0 (fun _ => true) true t v d ps) : ∃ l : List α, Rd W k v l.length (l.flatMap row) ∧ ∀ x ∈ l, good x := by
  obtain ⟨a0, len0, cap0, rfl⟩ := okWide_slice ht hv
  obtain ⟨fuel, hf⟩ := h
  rcases open_slice ht hf with ⟨hcs, _⟩ | ⟨a, len, cap, m, n, D, Pl, hcs, _, hl, hm, hmm, _, hi⟩
  · simp [Value.cells] at hcs
    obtain ⟨rfl, rfl, rfl⟩ := hcs
    exact ⟨[], .inl ⟨rfl, rfl, rfl⟩, by simp⟩
  · simp [Value.cells] at hcs
    obtain ⟨rfl, rfl, rfl⟩ := hcs
    simp at hmm
    have key : ∀ i, i < len0 → ∃ x, good x ∧ ∀ j, j < k → ∃ u, (row x)[j]? = some u ∧ W.cell? (a.add (i * k + j)) = some u := by
      intro i him
      obtain ⟨cs', hc, ht'⟩ := hi i (by omega)
      rw [hC] at hc
      obtain ⟨_, hcl, hat⟩ := World.cells?_some hc
      obtain ⟨x, hg, hx⟩ := hread cs' _ _ hcl ht'
      refine ⟨x, hg, fun j hj => ?_⟩
      refine ⟨cs'[j]'(by omega), by rw [hx j hj, List.getElem?_eq_getElem (by omega)], ?_⟩
      rw [← Go.Deep.add_add, hat j hj, List.getElem?_eq_getElem (by omega)]
    have hcell : ∀ j, j < len0 * k → ∃ u, W.cell? (a.add j) = some u := by
      intro j hj
      have hkp : 0 < k := by rcases Nat.eq_zero_or_pos k with h0 | h0; · simp [h0] at hj
                             · exact h0
      obtain ⟨x, _, hx⟩ := key (j / k) (Nat.div_lt_of_lt_mul (by rw [Nat.mul_comm]; exact hj))
      obtain ⟨u, _, hu⟩ := hx (j % k) (Nat.mod_lt _ hkp)
      rw [Nat.mul_comm, Nat.div_add_mod] at hu
      exact ⟨u, hu⟩
    have hxs : ∀ j, j < len0 * k → ((List.range (len0 * k)).map fun j => (W.cell? (a.add j)).getD undef)[j]? = W.cell? (a.add j) := by
      intro j hj
      obtain ⟨u, hu⟩ := hcell j hj
      rw [List.getElem?_map, List.getElem?_range hj, Option.map_some, hu]; rfl
    obtain ⟨l, h1, h2, h3⟩ := rows_list (row := row) (k := k) (good := good) len0 ((List.range (len0 * k)).map fun j => (W.cell? (a.add j)).getD undef) (by simp) (fun i hi' => by
      obtain ⟨x, hg, hx⟩ := key i hi'
      refine ⟨x, hg, hrow x, fun j hj => ?_⟩
      obtain ⟨u, hu, hc⟩ := hx j hj
      have : i * k + j < len0 * k := by
        have : (i + 1) * k ≤ len0 * k := Nat.mul_le_mul_right _ hi'
        rw [Nat.succ_mul] at this; omega
      rw [hxs _ this, hu, hc])
    refine ⟨l, .inr ⟨a, cap0, by rw [h1], by omega, hm, by rw [← h2]; simp [h1], fun j u hj => ?_⟩, h3⟩
    rw [← h2] at hj
    have hlt : j < len0 * k := by
      have := (List.getElem?_eq_some_iff.1 hj).1
      simpa using this
    rw [hxs j hlt] at hj
    exact hj
theorem one_of {l : List Value} {v : Value} {r : List Value} (h : l = v :: r) (hl : l.length = 1) : l = [v] := by
  subst h
  simp at hl
  subst hl
  rfl
theorem take1 {l : List Value} {j : Nat} (h : j < l.length) : (l.drop j).take 1 = [l[j]] := by
  rw [List.drop_eq_getElem_cons h]
  rfl
theorem take1d {l : List Value} {i j : Nat} (h : i + j < l.length) (hk : j < 10) : (((l.drop i).take 10).drop j).take 1 = [l[i + j]] := by
  have h1 : j < ((l.drop i).take 10).length := by rw [List.length_take, List.length_drop]; omega
  rw [take1 h1]
  simp
set_option maxRecDepth 100000 in
set_option maxHeartbeats 4000000 in
theorem open_fst {H : Type} {enc : TypeId × Value → H} {W : World} {r : Reach} {b0 : Nat} {v : Value} {d : DataW H} {ps : List MemPlace}
    (hv : Value.okWide Try.prog W r b0 45 v) (h : DataW.Trod enc Try.prog W 0 (fun _ => true) true 45 v d ps) :
    ∃ S : List Fst, Rd W 13 v S.length (S.flatMap Fst.row) ∧ ∀ s ∈ S, s.ok W := by
  refine open_rowsX Fst.row (fun s => s.ok W) 13 rowFst Try.underlying45 (by kernel_rfl) hv ?_ h
  intro cs y m hl ht
  obtain ⟨xs, n, rfl, _, _, hxl, hf⟩ := DataW.trod_struct Try.underlying51 ht
  have g0 : DataW.trod enc Try.prog W 0 (fun _ => true) true n 3 ((cs.drop 0).take 1) = xs[0]? := hf 0 _ rfl
  have g1 : DataW.trod enc Try.prog W 0 (fun _ => true) true n 3 ((cs.drop 1).take 1) = xs[1]? := hf 1 _ rfl
  have g2 : DataW.trod enc Try.prog W 0 (fun _ => true) true n 3 ((cs.drop 2).take 1) = xs[2]? := hf 2 _ rfl
  have g3 : DataW.trod enc Try.prog W 0 (fun _ => true) true n 34 ((cs.drop 3).take 10) = xs[3]? := hf 3 _ rfl
  have hx4 : xs.length = 4 := hxl
  rw [List.getElem?_eq_getElem (by omega)] at g0 g1 g2 g3
  rw [take1 (by omega)] at g0 g1 g2
  obtain ⟨k, e0, _, w0⟩ := DataW.trod_int Try.underlying3 g0
  obtain ⟨sa, e1, _, w1⟩ := DataW.trod_int Try.underlying3 g1
  obtain ⟨pa, e2, _, w2⟩ := DataW.trod_int Try.underlying3 g2
  obtain ⟨zs, n', rfl, _, _, hzl, hz⟩ := DataW.trod_struct Try.underlying34 g3
  have hz10 : zs.length = 10 := hzl
  have p0 : DataW.trod enc Try.prog W 0 (fun _ => true) true n' 3 ((((cs.drop 3).take 10).drop 0).take 1) = zs[0]? := hz 0 _ rfl
  rw [List.getElem?_eq_getElem (by omega), take1d (by omega) (by decide)] at p0
  obtain ⟨x0, d0, _, v0⟩ := DataW.trod_int Try.underlying3 p0
  have q3 : cs[3]'(by omega) = .int .i64 x0 := (List.cons.inj d0).1
  have p1 : DataW.trod enc Try.prog W 0 (fun _ => true) true n' 3 ((((cs.drop 3).take 10).drop 1).take 1) = zs[1]? := hz 1 _ rfl
  rw [List.getElem?_eq_getElem (by omega), take1d (by omega) (by decide)] at p1
  obtain ⟨x1, d1, _, v1⟩ := DataW.trod_int Try.underlying3 p1
  have q4 : cs[4]'(by omega) = .int .i64 x1 := (List.cons.inj d1).1
  have p2 : DataW.trod enc Try.prog W 0 (fun _ => true) true n' 3 ((((cs.drop 3).take 10).drop 2).take 1) = zs[2]? := hz 2 _ rfl
  rw [List.getElem?_eq_getElem (by omega), take1d (by omega) (by decide)] at p2
  obtain ⟨x2, d2, _, v2⟩ := DataW.trod_int Try.underlying3 p2
  have q5 : cs[5]'(by omega) = .int .i64 x2 := (List.cons.inj d2).1
  have p3 : DataW.trod enc Try.prog W 0 (fun _ => true) true n' 3 ((((cs.drop 3).take 10).drop 3).take 1) = zs[3]? := hz 3 _ rfl
  rw [List.getElem?_eq_getElem (by omega), take1d (by omega) (by decide)] at p3
  obtain ⟨x3, d3, _, v3⟩ := DataW.trod_int Try.underlying3 p3
  have q6 : cs[6]'(by omega) = .int .i64 x3 := (List.cons.inj d3).1
  have p4 : DataW.trod enc Try.prog W 0 (fun _ => true) true n' 31 ((((cs.drop 3).take 10).drop 4).take 1) = zs[4]? := hz 4 _ rfl
  rw [List.getElem?_eq_getElem (by omega), take1d (by omega) (by decide)] at p4
  obtain ⟨x4, d4, _, v4⟩ := DataW.trod_int Try.underlying31 p4
  have q7 : cs[7]'(by omega) = .int .u64 x4 := (List.cons.inj d4).1
  have p5 : DataW.trod enc Try.prog W 0 (fun _ => true) true n' 3 ((((cs.drop 3).take 10).drop 5).take 1) = zs[5]? := hz 5 _ rfl
  rw [List.getElem?_eq_getElem (by omega), take1d (by omega) (by decide)] at p5
  obtain ⟨x5, d5, _, v5⟩ := DataW.trod_int Try.underlying3 p5
  have q8 : cs[8]'(by omega) = .int .i64 x5 := (List.cons.inj d5).1
  have p6 : DataW.trod enc Try.prog W 0 (fun _ => true) true n' 3 ((((cs.drop 3).take 10).drop 6).take 1) = zs[6]? := hz 6 _ rfl
  rw [List.getElem?_eq_getElem (by omega), take1d (by omega) (by decide)] at p6
  obtain ⟨x6, d6, _, v6⟩ := DataW.trod_int Try.underlying3 p6
  have q9 : cs[9]'(by omega) = .int .i64 x6 := (List.cons.inj d6).1
  have p7 : DataW.trod enc Try.prog W 0 (fun _ => true) true n' 3 ((((cs.drop 3).take 10).drop 7).take 1) = zs[7]? := hz 7 _ rfl
  rw [List.getElem?_eq_getElem (by omega), take1d (by omega) (by decide)] at p7
  obtain ⟨x7, d7, _, v7⟩ := DataW.trod_int Try.underlying3 p7
  have q10 : cs[10]'(by omega) = .int .i64 x7 := (List.cons.inj d7).1
  have p8 : DataW.trod enc Try.prog W 0 (fun _ => true) true n' 3 ((((cs.drop 3).take 10).drop 8).take 1) = zs[8]? := hz 8 _ rfl
  rw [List.getElem?_eq_getElem (by omega), take1d (by omega) (by decide)] at p8
  obtain ⟨x8, d8, _, v8⟩ := DataW.trod_int Try.underlying3 p8
  have q11 : cs[11]'(by omega) = .int .i64 x8 := (List.cons.inj d8).1
  have p9 : DataW.trod enc Try.prog W 0 (fun _ => true) true n' 32 ((((cs.drop 3).take 10).drop 9).take 1) = zs[9]? := hz 9 _ rfl
  rw [List.getElem?_eq_getElem (by omega), take1d (by omega) (by decide)] at p9
  obtain ⟨l, hzd⟩ := open_bytesC Try.underlying32 Try.underlying5 (by kernel_rfl) p9
  have q0 : cs[0]'(by omega) = .int .i64 k := (List.cons.inj e0).1
  have q1 : cs[1]'(by omega) = .int .i64 sa := (List.cons.inj e1).1
  have q2 : cs[2]'(by omega) = .int .i64 pa := (List.cons.inj e2).1
  obtain ⟨a, nn, c, hza⟩ : ∃ a nn c, cs[12]'(by omega) = .slice a nn c := by
    rcases hzd with ⟨h1, _⟩ | ⟨a, cap, h1, _⟩
    · exact ⟨_, _, _, h1⟩
    · exact ⟨_, _, _, h1⟩
  rw [hza] at hzd
  have hnn : nn = l.length := by
    obtain ⟨a', c', h1, _⟩ := hzd.form
    injection h1
  subst hnn
  refine ⟨⟨k, sa, ⟨x0, x1, x2, x3, x4, x5, x6, x7, x8, a, l.length, c, pa, l⟩⟩, ⟨(wf_u64 v4).1, rfl, hzd, wf_i64 w1, wf_i64 w2⟩, fun j hj => ?_⟩
  match j, hj with
  | 0, _ => rw [List.getElem?_eq_getElem (show 0 < cs.length by omega), q0]; rfl
  | 1, _ => rw [List.getElem?_eq_getElem (show 1 < cs.length by omega), q1]; rfl
  | 2, _ => rw [List.getElem?_eq_getElem (show 2 < cs.length by omega), q2]; rfl
  | 3, _ => rw [List.getElem?_eq_getElem (show 3 < cs.length by omega), q3]; rfl
  | 4, _ => rw [List.getElem?_eq_getElem (show 4 < cs.length by omega), q4]; rfl
  | 5, _ => rw [List.getElem?_eq_getElem (show 5 < cs.length by omega), q5]; rfl
  | 6, _ => rw [List.getElem?_eq_getElem (show 6 < cs.length by omega), q6]; rfl
  | 7, _ => rw [List.getElem?_eq_getElem (show 7 < cs.length by omega), q7]; rfl
  | 8, _ => rw [List.getElem?_eq_getElem (show 8 < cs.length by omega), q8]; rfl
  | 9, _ => rw [List.getElem?_eq_getElem (show 9 < cs.length by omega), q9]; rfl
  | 10, _ => rw [List.getElem?_eq_getElem (show 10 < cs.length by omega), q10]; rfl
  | 11, _ => rw [List.getElem?_eq_getElem (show 11 < cs.length by omega), q11]; rfl
  | 12, _ => rw [List.getElem?_eq_getElem (show 12 < cs.length by omega), hza]; rfl
end Go.Proofs.Ytoihhidoafgoaaa
