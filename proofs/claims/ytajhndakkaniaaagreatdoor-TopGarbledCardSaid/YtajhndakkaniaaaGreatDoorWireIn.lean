/- Structs that came in, by value and in slices. General lemmas; no program in sight. -/
import Derived.Test.YtajhndakkaniaaaGreatDoorFrame
import Derived.Deep.Slices
import Derived.Deep.Fields
import Derived.ChangeSame
import Derived.Test.YtajhndakkaniaaaGreatDoorWireChk
namespace Go.Proofs.YtajhndakkaniaaaGreatDoor
open Go.ChangeShapes Go.WideShapes Go.ChangeAt Go.RowKit Go.Joins Go.Deep

/-- a struct of one-cell fields, by value -/
theorem open_agg {H : Type} {enc : TypeId × Value → H} {P : Program} {w : World} {base : Nat} {spare : Nat → Bool} {held : Bool} {r : Reach} {b0 : Nat} {t : TypeId} {fs : Array Field} {v : Value} {d : DataW H} {p : List MemPlace} (hs : P.underlying t = some (.struct fs)) (hone : oneCellFields P fs = true) (hC : P.cellsOf t = fs.size)
    (hv : Value.okWide P w r b0 t v) (h : DataW.Trod enc P w base spare held t v d p) :
    ∃ l : List Value, v = .agg l.toArray ∧ l.length = fs.size ∧ ∀ (j : Nat) (f : Field), fs[j]? = some f → ∃ (u : Value) (y : DataW H × List MemPlace) (n : Nat), l[j]? = some u ∧ DataW.trod enc P w base spare held n f.type [u] = some y := by
  obtain ⟨cs, rfl, hsz⟩ := okWide_struct hs hv
  obtain ⟨l⟩ := cs
  obtain ⟨fuel, hf⟩ := h
  obtain ⟨xs, n, _, hx, _, hlen, hg⟩ := DataW.trod_struct hs hf
  have hl : l.length = fs.size := by rw [← hC, ← hsz]; rfl
  refine ⟨l, rfl, hl, fun j f hj => ?_⟩
  obtain ⟨ho, hk⟩ := hone_of hone j f hj
  have hjl : j < fs.size := (Array.getElem?_eq_some_iff.1 hj).1
  have h1 := hg j f hj
  have h2 : ((Value.agg l.toArray).cells.toList.drop f.offset).take (P.cellsOf f.type) = [l[j]'(by omega)] := by
    rw [ho, hk]
    simp only [Value.cells]
    rw [List.drop_eq_getElem_cons (by omega)]
    rfl
  rw [h2] at h1
  have hys : xs[j]? = some (xs[j]'(by omega)) := List.getElem?_eq_getElem (by omega)
  exact ⟨_, _, n, List.getElem?_eq_getElem (by omega), h1.trans hys⟩

theorem rows_list {α : Type} {row : α → List Value} {k : Nat} {good : α → Prop} : ∀ (n : Nat) (xs : List Value), xs.length = n * k → (∀ i, i < n → ∃ x, good x ∧ (row x).length = k ∧ ∀ j, j < k → xs[i * k + j]? = (row x)[j]?) →
    ∃ l : List α, l.length = n ∧ xs = l.flatMap row ∧ ∀ x ∈ l, good x := by
  intro n
  induction n with
  | zero => intro xs hl _; exact ⟨[], rfl, by simpa using hl, by simp⟩
  | succ n ih =>
    intro xs hl h
    obtain ⟨x, hg, hr, hx⟩ := h 0 (by omega)
    have hk : k ≤ xs.length := by rw [hl, Nat.succ_mul]; omega
    obtain ⟨l, h1, h2, h3⟩ := ih (xs.drop k) (by rw [List.length_drop, hl, Nat.succ_mul]; omega) (fun i hi => by
      obtain ⟨y, hg', hr', hy⟩ := h (i + 1) (by omega)
      refine ⟨y, hg', hr', fun j hj => ?_⟩
      rw [List.getElem?_drop, ← hy j hj]
      congr 1
      rw [Nat.succ_mul]; omega)
    refine ⟨x :: l, by simp [h1], ?_, ?_⟩
    · rw [List.flatMap_cons, ← h2]
      have h4 : row x = xs.take k := by
        refine List.ext_getElem? fun j => ?_
        by_cases hj : j < k
        · rw [← hx j hj, List.getElem?_take, if_pos hj]; simp
        · rw [List.getElem?_eq_none (by omega), List.getElem?_take, if_neg hj]
      rw [h4, List.take_append_drop]
    · intro y hy
      rcases List.mem_cons.1 hy with rfl | hy
      · exact hg
      · exact h3 y hy

/-- a slice of structs of one-cell fields -/
theorem open_rowsR {α : Type} (row : α → List Value) (good : α → Prop) (k : Nat) (hrow : ∀ x, (row x).length = k) {H : Type} {enc : TypeId × Value → H} {P : Program} {W : World} {t e : TypeId} {fs : Array Field} {v : Value} {d : DataW H} {ps : List MemPlace} (ht : P.underlying t = some (.slice e)) (he : P.underlying e = some (.struct fs))
    (hone : oneCellFields P fs = true) (hC : P.cellsOf e = fs.size) (hk : fs.size = k) {r : Reach} {b0 : Nat} (hv : Value.okWide P W r b0 t v)
    (hread : ∀ u : Nat → Value, (∀ (j : Nat) (f : Field), fs[j]? = some f → ∃ (y : DataW H × List MemPlace) (m : Nat), DataW.trod enc P W 0 (fun _ => true) true m f.type [u j] = some y) → ∃ x, good x ∧ ∀ j, j < k → (row x)[j]? = some (u j))
    (h : DataW.Trod enc P W 0 (fun _ => true) true t v d ps) : ∃ l : List α, Rd W k v l.length (l.flatMap row) ∧ ∀ x ∈ l, good x := by
  obtain ⟨a0, len0, cap0, rfl⟩ := okWide_slice ht hv
  obtain ⟨fuel, hf⟩ := h
  rcases open_slice ht hf with ⟨hcs, _⟩ | ⟨a, len, cap, m, n, D, Pl, hcs, _, hl, hm, hmm, _, hi⟩
  · simp [Value.cells] at hcs
    obtain ⟨rfl, rfl, rfl⟩ := hcs
    exact ⟨[], .inl ⟨rfl, rfl, rfl⟩, by simp⟩
  · simp [Value.cells] at hcs
    obtain ⟨rfl, rfl, rfl⟩ := hcs
    simp at hmm
    have key : ∀ i, i < len0 → ∃ x, good x ∧ ∀ j, j < k → ∃ u, (row x)[j]? = some u ∧ W.cell? (a.add (i * k + j)) = some u := by
      intro i him
      obtain ⟨cs', hc, ht'⟩ := hi i (by omega)
      rw [hC, hk] at hc
      obtain ⟨ys, n', hn', hy, hlen, hyl, hff⟩ := DataW.trod_struct he ht'
      obtain ⟨_, hcl, hat⟩ := World.cells?_some hc
      have hex : ∀ j, j < k → ∃ u, cs'[j]? = some u := fun j hj => ⟨cs'[j]'(by omega), List.getElem?_eq_getElem (by omega)⟩
      obtain ⟨x, hg, hx⟩ := hread (fun j => cs'.getD j undef) (fun j f hj => by
        have hjl : j < fs.size := (Array.getElem?_eq_some_iff.1 hj).1
        obtain ⟨ho, hk1⟩ := hone_of hone j f hj
        have h1 := hff j f hj
        rw [ho, hk1, List.drop_eq_getElem_cons (by omega)] at h1
        have hys : ys[j]? = some (ys[j]'(by omega)) := List.getElem?_eq_getElem (by omega)
        refine ⟨ys[j]'(by omega), n', ?_⟩
        · rw [show cs'.getD j undef = cs'[j]'(by omega) by rw [List.getD_eq_getElem?_getD, List.getElem?_eq_getElem (by omega)]; rfl]
          exact h1.trans hys)
      refine ⟨x, hg, fun j hj => ?_⟩
      obtain ⟨u, hu⟩ := hex j hj
      refine ⟨u, by rw [hx j hj, List.getD_eq_getElem?_getD, hu]; rfl, ?_⟩
      rw [← Go.Deep.add_add, hat j hj, hu]
    have hcell : ∀ j, j < len0 * k → ∃ u, W.cell? (a.add j) = some u := by
      intro j hj
      have hkp : 0 < k := by rcases Nat.eq_zero_or_pos k with h0 | h0; · simp [h0] at hj
                             · exact h0
      obtain ⟨x, _, hx⟩ := key (j / k) (Nat.div_lt_of_lt_mul (by rw [Nat.mul_comm]; exact hj))
      obtain ⟨u, _, hu⟩ := hx (j % k) (Nat.mod_lt _ hkp)
      rw [Nat.mul_comm, Nat.div_add_mod] at hu
      exact ⟨u, hu⟩
    have hxs : ∀ j, j < len0 * k → ((List.range (len0 * k)).map fun j => (W.cell? (a.add j)).getD undef)[j]? = W.cell? (a.add j) := by
      intro j hj
      obtain ⟨u, hu⟩ := hcell j hj
      rw [List.getElem?_map, List.getElem?_range hj, Option.map_some, hu]; rfl
    obtain ⟨l, h1, h2, h3⟩ := rows_list (row := row) (k := k) (good := good) len0 ((List.range (len0 * k)).map fun j => (W.cell? (a.add j)).getD undef) (by simp) (fun i hi' => by
      obtain ⟨x, hg, hx⟩ := key i hi'
      refine ⟨x, hg, hrow x, fun j hj => ?_⟩
      obtain ⟨u, hu, hc⟩ := hx j hj
      have : i * k + j < len0 * k := by
        have : (i + 1) * k ≤ len0 * k := Nat.mul_le_mul_right _ hi'
        rw [Nat.succ_mul] at this; omega
      rw [hxs _ this, hu, hc])
    refine ⟨l, .inr ⟨a, cap0, by rw [h1], by omega, hm, by rw [← h2]; simp [h1], fun j u hj => ?_⟩, h3⟩
    rw [← h2] at hj
    have hlt : j < len0 * k := by
      have := (List.getElem?_eq_some_iff.1 hj).1
      simpa using this
    rw [hxs j hlt] at hj
    exact hj
end Go.Proofs.YtajhndakkaniaaaGreatDoor
/- A frame that came in. -/
namespace Go.Proofs.YtajhndakkaniaaaGreatDoor
open Go.ChangeShapes Go.WideShapes Go.ChangeAt Go.RowKit Go.Joins Go.Deep
set_option maxRecDepth 100000

theorem open_intsC {H : Type} {enc : TypeId × Value → H} {P : Program} {W : World} {t e : TypeId} {k : IntKind} {u : Value} {fuel : Nat} {y : DataW H × List MemPlace} (ht : P.underlying t = some (.slice e)) (he : P.underlying e = some (.int k)) (hc : P.cellsOf e = 1)
    (hf : DataW.trod enc P W 0 (fun _ => true) true fuel t [u] = some y) : ∃ zs : List Int, Rd W 1 u zs.length (zs.map (Value.int k)) ∧ ∀ n ∈ zs, (Lit.int k n).wf = true := by
  rcases open_ints ht he hc hf with ⟨hcs, _⟩ | ⟨x, l, c, zs, hcs, _, hl, hm, hz, _, hcell, hwz⟩
  · obtain rfl := (List.cons.inj hcs).1
    exact ⟨[], .inl ⟨rfl, rfl, rfl⟩, by simp⟩
  · obtain rfl := (List.cons.inj hcs).1
    simp at hz
    have hlen : (zs.take l).length = l := by rw [List.length_take]; omega
    refine ⟨zs.take l, .inr ⟨x, c, by rw [hlen], by omega, hm, by simp, ?_⟩, fun n hn => hwz n (List.mem_of_mem_take hn)⟩
    intro j u hj
    rw [List.getElem?_map, Option.map_eq_some_iff] at hj
    obtain ⟨q, hq, rfl⟩ := hj
    rw [List.getElem?_take] at hq
    split at hq
    · have hlt : j < zs.length := by omega
      rw [hcell j hlt]
      rw [List.getElem?_eq_getElem hlt] at hq
      simp at hq
      rw [List.getD_eq_getElem?_getD, List.getElem?_eq_getElem hlt, Option.getD_some, hq]
    · cases hq
theorem open_bytesC {H : Type} {enc : TypeId × Value → H} {P : Program} {W : World} {t e : TypeId} {u : Value} {fuel : Nat} {y : DataW H × List MemPlace} (ht : P.underlying t = some (.slice e)) (he : P.underlying e = some (.int .u8)) (hc : P.cellsOf e = 1)
    (hf : DataW.trod enc P W 0 (fun _ => true) true fuel t [u] = some y) : ∃ l : List UInt8, Rd W 1 u l.length (bcells l) := by
  obtain ⟨zs, h1, h2⟩ := open_intsC ht he hc hf
  obtain ⟨l, h3, h4⟩ := bytes_of_ints zs h2
  exact ⟨l, by rw [← h3, ← h4]; exact h1⟩
theorem open_frame {H : Type} {enc : TypeId × Value → H} {w : World} {r : Reach} {b0 : Nat} {v : Value} {d : DataW H} {p : List MemPlace}
    (hv : Value.okWide Tryz.prog w r b0 44 v) (h : DataW.Trod enc Tryz.prog w 0 (fun _ => true) true 44 v d p) :
    ∃ (x0 : Int) (x1 : Int) (x2 : Int) (x3 : Int) (x4 : Int) (x5 : Int) (x6 : Int) (x7 : Int) (x8 : Int) (z : Value) (l : List UInt8), v = .agg #[.int .i64 x0, .int .i64 x1, .int .i64 x2, .int .i64 x3, .int .u64 x4, .int .i64 x5, .int .i64 x6, .int .i64 x7, .int .i64 x8, z] ∧ (-9223372036854775808 ≤ x0 ∧ x0 ≤ 9223372036854775807) ∧ (-9223372036854775808 ≤ x1 ∧ x1 ≤ 9223372036854775807) ∧ (-9223372036854775808 ≤ x2 ∧ x2 ≤ 9223372036854775807) ∧ (-9223372036854775808 ≤ x3 ∧ x3 ≤ 9223372036854775807) ∧ (0 ≤ x4 ∧ x4 ≤ 18446744073709551615) ∧ (-9223372036854775808 ≤ x5 ∧ x5 ≤ 9223372036854775807) ∧ (-9223372036854775808 ≤ x6 ∧ x6 ≤ 9223372036854775807) ∧ (-9223372036854775808 ≤ x7 ∧ x7 ≤ 9223372036854775807) ∧ (-9223372036854775808 ≤ x8 ∧ x8 ≤ 9223372036854775807) ∧ Rd w 1 z l.length (bcells l) := by
  obtain ⟨q, rfl, hl, hf⟩ := open_agg Tryz.underlying44 (by kernel_rfl) (by kernel_rfl) hv h
  obtain ⟨u0, y0, m0, g0, t0⟩ := hf 0 _ rfl
  obtain ⟨x0, e0, _, w0⟩ := DataW.trod_int Tryz.underlying3 t0
  obtain rfl := (List.cons.inj e0).1
  obtain ⟨u1, y1, m1, g1, t1⟩ := hf 1 _ rfl
  obtain ⟨x1, e1, _, w1⟩ := DataW.trod_int Tryz.underlying3 t1
  obtain rfl := (List.cons.inj e1).1
  obtain ⟨u2, y2, m2, g2, t2⟩ := hf 2 _ rfl
  obtain ⟨x2, e2, _, w2⟩ := DataW.trod_int Tryz.underlying3 t2
  obtain rfl := (List.cons.inj e2).1
  obtain ⟨u3, y3, m3, g3, t3⟩ := hf 3 _ rfl
  obtain ⟨x3, e3, _, w3⟩ := DataW.trod_int Tryz.underlying3 t3
  obtain rfl := (List.cons.inj e3).1
  obtain ⟨u4, y4, m4, g4, t4⟩ := hf 4 _ rfl
  obtain ⟨x4, e4, _, w4⟩ := DataW.trod_int Tryz.underlying22 t4
  obtain rfl := (List.cons.inj e4).1
  obtain ⟨u5, y5, m5, g5, t5⟩ := hf 5 _ rfl
  obtain ⟨x5, e5, _, w5⟩ := DataW.trod_int Tryz.underlying3 t5
  obtain rfl := (List.cons.inj e5).1
  obtain ⟨u6, y6, m6, g6, t6⟩ := hf 6 _ rfl
  obtain ⟨x6, e6, _, w6⟩ := DataW.trod_int Tryz.underlying3 t6
  obtain rfl := (List.cons.inj e6).1
  obtain ⟨u7, y7, m7, g7, t7⟩ := hf 7 _ rfl
  obtain ⟨x7, e7, _, w7⟩ := DataW.trod_int Tryz.underlying3 t7
  obtain rfl := (List.cons.inj e7).1
  obtain ⟨u8, y8, m8, g8, t8⟩ := hf 8 _ rfl
  obtain ⟨x8, e8, _, w8⟩ := DataW.trod_int Tryz.underlying3 t8
  obtain rfl := (List.cons.inj e8).1
  obtain ⟨z, y, m, g, t⟩ := hf 9 _ rfl
  obtain ⟨l, hz⟩ := open_bytesC Tryz.underlying33 Tryz.underlying5 (by kernel_rfl) t
  obtain rfl : q = [.int .i64 x0, .int .i64 x1, .int .i64 x2, .int .i64 x3, .int .u64 x4, .int .i64 x5, .int .i64 x6, .int .i64 x7, .int .i64 x8, z] := by
    refine List.ext_getElem? fun j => ?_
    match j with
    | 0 => exact g0
    | 1 => exact g1
    | 2 => exact g2
    | 3 => exact g3
    | 4 => exact g4
    | 5 => exact g5
    | 6 => exact g6
    | 7 => exact g7
    | 8 => exact g8
    | 9 => exact g
    | j + 10 => rw [List.getElem?_eq_none (by rw [hl]; show 10 ≤ j + 10; omega), List.getElem?_eq_none (by simp)]
  exact ⟨x0, x1, x2, x3, x4, x5, x6, x7, x8, z, l, rfl, wf_i64 w0, wf_i64 w1, wf_i64 w2, wf_i64 w3, wf_u64 w4, wf_i64 w5, wf_i64 w6, wf_i64 w7, wf_i64 w8, hz⟩
theorem open_fr {H : Type} {enc : TypeId × Value → H} {w : World} {r : Reach} {b0 : Nat} {v : Value} {d : DataW H} {p : List MemPlace}
    (hv : Value.okWide Tryz.prog w r b0 44 v) (h : DataW.Trod enc Tryz.prog w 0 (fun _ => true) true 44 v d p) :
    ∃ (f : Fr) (z : Value), v = f.val z ∧ 0 ≤ f.msg ∧ Rd w 1 z f.data.length (bcells f.data) ∧ (-9223372036854775808 ≤ f.len ∧ f.len ≤ 9223372036854775807) := by
  obtain ⟨x0, x1, x2, x3, x4, x5, x6, x7, x8, z, l, rfl, _, _, _, _, h4, _, h6, _, _, hz⟩ := open_frame hv h
  exact ⟨⟨x0, x1, x2, x3, x4, x5, x6, x7, x8, l⟩, z, rfl, h4.1, hz, h6⟩
end Go.Proofs.YtajhndakkaniaaaGreatDoor
