/- Structs that came in, by value and in slices. General lemmas; no program in sight. -/
import Derived.Test.YtgfkgbampoocdaaGreatDoorFrame
import Derived.Deep.Slices
import Derived.Deep.Fields
import Derived.ChangeSame
namespace Go.Proofs.YtgfkgbampoocdaaGreatDoor
open Go.ChangeShapes Go.WideShapes Go.ChangeAt Go.RowKit Go.Joins Go.Deep

/-- a struct of one-cell fields, by value -/
theorem open_agg {H : Type} {enc : TypeId × Value → H} {P : Program} {w : World} {base : Nat} {spare : Nat → Bool} {held : Bool} {r : Reach} {b0 : Nat} {t : TypeId} {fs : Array Field} {v : Value} {d : DataW H} {p : List MemPlace} (hs : P.underlying t = some (.struct fs)) (hone : oneCellFields P fs = true) (hC : P.cellsOf t = fs.size)
    (hv : Value.okWide P w r b0 t v) (h : DataW.Trod enc P w base spare held t v d p) :
    ∃ l : List Value, v = .agg l.toArray ∧ l.length = fs.size ∧ ∀ (j : Nat) (f : Field), fs[j]? = some f → ∃ (u : Value) (y : DataW H × List MemPlace) (n : Nat), l[j]? = some u ∧ DataW.trod enc P w base spare held n f.type [u] = some y := by
  obtain ⟨cs, rfl, hsz⟩ := okWide_struct hs hv
  obtain ⟨l⟩ := cs
  obtain ⟨fuel, hf⟩ := h
  obtain ⟨xs, n, _, hx, _, hlen, hg⟩ := DataW.trod_struct hs hf
  have hl : l.length = fs.size := by rw [← hC, ← hsz]; rfl
  refine ⟨l, rfl, hl, fun j f hj => ?_⟩
  obtain ⟨ho, hk⟩ := hone_of hone j f hj
  have hjl : j < fs.size := (Array.getElem?_eq_some_iff.1 hj).1
  have h1 := hg j f hj
  have h2 : ((Value.agg l.toArray).cells.toList.drop f.offset).take (P.cellsOf f.type) = [l[j]'(by omega)] := by
    rw [ho, hk]
    simp only [Value.cells]
    rw [List.drop_eq_getElem_cons (by omega)]
    rfl
  rw [h2] at h1
  have hys : xs[j]? = some (xs[j]'(by omega)) := List.getElem?_eq_getElem (by omega)
  exact ⟨_, _, n, List.getElem?_eq_getElem (by omega), h1.trans hys⟩

theorem rows_list {α : Type} {row : α → List Value} {k : Nat} {good : α → Prop} : ∀ (n : Nat) (xs : List Value), xs.length = n * k → (∀ i, i < n → ∃ x, good x ∧ (row x).length = k ∧ ∀ j, j < k → xs[i * k + j]? = (row x)[j]?) →
    ∃ l : List α, l.length = n ∧ xs = l.flatMap row ∧ ∀ x ∈ l, good x := by
  intro n
  induction n with
  | zero => intro xs hl _; exact ⟨[], rfl, by simpa using hl, by simp⟩
  | succ n ih =>
    intro xs hl h
    obtain ⟨x, hg, hr, hx⟩ := h 0 (by omega)
    have hk : k ≤ xs.length := by rw [hl, Nat.succ_mul]; omega
    obtain ⟨l, h1, h2, h3⟩ := ih (xs.drop k) (by rw [List.length_drop, hl, Nat.succ_mul]; omega) (fun i hi => by
      obtain ⟨y, hg', hr', hy⟩ := h (i + 1) (by omega)
      refine ⟨y, hg', hr', fun j hj => ?_⟩
      rw [List.getElem?_drop, ← hy j hj]
      congr 1
      rw [Nat.succ_mul]; omega)
    refine ⟨x :: l, by simp [h1], ?_, ?_⟩
    · rw [List.flatMap_cons, ← h2]
      have h4 : row x = xs.take k := by
        refine List.ext_getElem? fun j => ?_
        by_cases hj : j < k
        · rw [← hx j hj, List.getElem?_take, if_pos hj]; simp
        · rw [List.getElem?_eq_none (by omega), List.getElem?_take, if_neg hj]
      rw [h4, List.take_append_drop]
    · intro y hy
      rcases List.mem_cons.1 hy with rfl | hy
      · exact hg
      · exact h3 y hy

/-- a slice of structs of one-cell fields -/
theorem open_rowsR {α : Type} (row : α → List Value) (good : α → Prop) (k : Nat) (hrow : ∀ x, (row x).length = k) {H : Type} {enc : TypeId × Value → H} {P : Program} {W : World} {t e : TypeId} {fs : Array Field} {v : Value} {d : DataW H} {ps : List MemPlace} (ht : P.underlying t = some (.slice e)) (he : P.underlying e = some (.struct fs))
    (hone : oneCellFields P fs = true) (hC : P.cellsOf e = fs.size) (hk : fs.size = k) {r : Reach} {b0 : Nat} (hv : Value.okWide P W r b0 t v)
    (hread : ∀ u : Nat → Value, (∀ (j : Nat) (f : Field), fs[j]? = some f → ∃ (y : DataW H × List MemPlace) (m : Nat), DataW.trod enc P W 0 (fun _ => true) true m f.type [u j] = some y) → ∃ x, good x ∧ ∀ j, j < k → (row x)[j]? = some (u j))
    (h : DataW.Trod enc P W 0 (fun _ => true) true t v d ps) : ∃ l : List α, Rd W k v l.length (l.flatMap row) ∧ ∀ x ∈ l, good x := by
  obtain ⟨a0, len0, cap0, rfl⟩ := okWide_slice ht hv
  obtain ⟨fuel, hf⟩ := h
  rcases open_slice ht hf with ⟨hcs, _⟩ | ⟨a, len, cap, m, n, D, Pl, hcs, _, hl, hm, hmm, _, hi⟩
  · simp [Value.cells] at hcs
    obtain ⟨rfl, rfl, rfl⟩ := hcs
    exact ⟨[], .inl ⟨rfl, rfl, rfl⟩, by simp⟩
  · simp [Value.cells] at hcs
    obtain ⟨rfl, rfl, rfl⟩ := hcs
    simp at hmm
    have key : ∀ i, i < len0 → ∃ x, good x ∧ ∀ j, j < k → ∃ u, (row x)[j]? = some u ∧ W.cell? (a.add (i * k + j)) = some u := by
      intro i him
      obtain ⟨cs', hc, ht'⟩ := hi i (by omega)
      rw [hC, hk] at hc
      obtain ⟨ys, n', hn', hy, hlen, hyl, hff⟩ := DataW.trod_struct he ht'
      obtain ⟨_, hcl, hat⟩ := World.cells?_some hc
      have hex : ∀ j, j < k → ∃ u, cs'[j]? = some u := fun j hj => ⟨cs'[j]'(by omega), List.getElem?_eq_getElem (by omega)⟩
      obtain ⟨x, hg, hx⟩ := hread (fun j => cs'.getD j undef) (fun j f hj => by
        have hjl : j < fs.size := (Array.getElem?_eq_some_iff.1 hj).1
        obtain ⟨ho, hk1⟩ := hone_of hone j f hj
        have h1 := hff j f hj
        rw [ho, hk1, List.drop_eq_getElem_cons (by omega)] at h1
        have hys : ys[j]? = some (ys[j]'(by omega)) := List.getElem?_eq_getElem (by omega)
        refine ⟨ys[j]'(by omega), n', ?_⟩
        · rw [show cs'.getD j undef = cs'[j]'(by omega) by rw [List.getD_eq_getElem?_getD, List.getElem?_eq_getElem (by omega)]; rfl]
          exact h1.trans hys)
      refine ⟨x, hg, fun j hj => ?_⟩
      obtain ⟨u, hu⟩ := hex j hj
      refine ⟨u, by rw [hx j hj, List.getD_eq_getElem?_getD, hu]; rfl, ?_⟩
      rw [← Go.Deep.add_add, hat j hj, hu]
    have hcell : ∀ j, j < len0 * k → ∃ u, W.cell? (a.add j) = some u := by
      intro j hj
      have hkp : 0 < k := by rcases Nat.eq_zero_or_pos k with h0 | h0; · simp [h0] at hj
                             · exact h0
      obtain ⟨x, _, hx⟩ := key (j / k) (Nat.div_lt_of_lt_mul (by rw [Nat.mul_comm]; exact hj))
      obtain ⟨u, _, hu⟩ := hx (j % k) (Nat.mod_lt _ hkp)
      rw [Nat.mul_comm, Nat.div_add_mod] at hu
      exact ⟨u, hu⟩
    have hxs : ∀ j, j < len0 * k → ((List.range (len0 * k)).map fun j => (W.cell? (a.add j)).getD undef)[j]? = W.cell? (a.add j) := by
      intro j hj
      obtain ⟨u, hu⟩ := hcell j hj
      rw [List.getElem?_map, List.getElem?_range hj, Option.map_some, hu]; rfl
    obtain ⟨l, h1, h2, h3⟩ := rows_list (row := row) (k := k) (good := good) len0 ((List.range (len0 * k)).map fun j => (W.cell? (a.add j)).getD undef) (by simp) (fun i hi' => by
      obtain ⟨x, hg, hx⟩ := key i hi'
      refine ⟨x, hg, hrow x, fun j hj => ?_⟩
      obtain ⟨u, hu, hc⟩ := hx j hj
      have : i * k + j < len0 * k := by
        have : (i + 1) * k ≤ len0 * k := Nat.mul_le_mul_right _ hi'
        rw [Nat.succ_mul] at this; omega
      rw [hxs _ this, hu, hc])
    refine ⟨l, .inr ⟨a, cap0, by rw [h1], by omega, hm, by rw [← h2]; simp [h1], fun j u hj => ?_⟩, h3⟩
    rw [← h2] at hj
    have hlt : j < len0 * k := by
      have := (List.getElem?_eq_some_iff.1 hj).1
      simpa using this
    rw [hxs j hlt] at hj
    exact hj
end Go.Proofs.YtgfkgbampoocdaaGreatDoor
