/- Small general lemmas used by every text of this claim: no program in sight. -/
import Derived.WalkKit
import Derived.Outline
import Derived.Lib.Hide
import Derived.BigQuiet
import Derived.Deep.QuietTactic
import Derived.Deep.DeepFit
import Derived.Laws.AppendOwnNone
import Derived.WalkSpells
import Derived.WalkLawsBesides
import Derived.Laws.BytesString
namespace Go.Proofs.YtajhndakkaniaaaGreatDoor
open Go.RowKit

@[go_sem] theorem ite_max (x y : Int) : (if x < y then y else x) = max x y := by omega
@[go_sem] theorem ite_min (x y : Int) : (if y < x then y else x) = min x y := by omega

theorem ret_int {k : IntKind} {a b : Int} (h : a = b) : Ending.returned (.int k a) = .returned (.int k b) := by rw [h]
theorem ret_bool {a b : Bool} (h : a = b) : Ending.returned (.bool a) = .returned (.bool b) := by rw [h]

/-- a call's end: the results, and what is said of them -/
theorem done {P : Program} {fn : Func} {R : Ending → World → Prop} {a : Act} {w : World} (v : Value) (hd : a.defers = []) (hr : (results fn a.tmps).run P w = .ok v w) (h : R (.returned v) w) : bodyPost P fn R .ret a w := ⟨hd, v, hr, h⟩

theorem cell_of_heap {w : World} {b i : Nat} {c : Array Value} {T : TypeId} {z : Nat × Nat} {v : Value} (h : w.heap[b]? = some (.cells c T z)) (hi : c[i]? = some v) : w.cell? ⟨b, i, none⟩ = some v := by
  simp [World.cell?, h, hi]
theorem free_of_heap {w : World} {b : Nat} {c : Array Value} {T : TypeId} (h : w.heap[b]? = some (.cells c T (0, 0))) (i : Nat) : w.frozen? ⟨b, i, none⟩ = false := by
  simp [World.frozen?, h]
theorem heap_new (w : World) (o : Obj) : (w.alloc o).heap[w.heap.size]? = some o := heap_alloc_new w o
theorem heap_old {w : World} (o : Obj) {b : Nat} {x : Obj} (h : w.heap[b]? = some x) : (w.alloc o).heap[b]? = some x := by
  rw [Below.heap_alloc w o b (Array.getElem?_eq_some_iff.1 h).1, h]
theorem heap_lt {w : World} {b : Nat} {x : Obj} (h : w.heap[b]? = some x) : b < w.heap.size := (Array.getElem?_eq_some_iff.1 h).1
theorem ownsRow_mono {w : World} {B B' : Nat} {e : TypeId} {size : Nat} {v : Value} {n : Nat} {xs : List Value} (h : w.ownsRow B e size v n xs) (hB : B' ≤ B) : w.ownsRow B' e size v n xs := by
  refine ⟨h.1, ?_⟩
  rcases h.2 with h2 | ⟨g, cap, cur, hv, hg, r⟩
  · exact .inl h2
  · exact .inr ⟨g, cap, cur, hv, Nat.le_trans hB hg, r⟩
theorem ownBlock_ne {w : World} {B b : Nat} {e : TypeId} {size : Nat} {v : Value} {n : Nat} {xs : List Value} (h : w.ownsRow B e size v n xs) (hb : b < B) : some b ≠ v.ownBlock := by
  intro he
  have := (h.lt b he.symm).1
  omega

theorem below_dn {B n : Nat} {a w : World} (h : Below B a w) : Below B a (w.drewN n) := ⟨h.os, h.tape, h.output, h.size, h.block⟩

theorem addr_add (b o j : Nat) : (⟨b, o, none⟩ : Addr).add j = ⟨b, o + j, none⟩ := by unfold Addr.add; split <;> simp_all

/-- one element appended to a row of the call's own -/
theorem app1 {P : Program} {t e : TypeId} {z : Value} {size bytes : Nat} (ty : TypeId) (hinfo : (P.info? e).map (fun i => (i.zero, i.size, i.bytes)) = some (some z, size, bytes)) (ht : P.underlying t = some (.slice e))
    (hzs : z.cells.size = size) (hsz : 0 < size) {W : World} {base : Nat} {v : Value} {n : Nat} {xs : List Value} (hown : W.ownsRow base e size v n xs)
    (news : List Value) (hl : news.length = size) (h1 : ∀ u ∈ news, u.oneCell' = true) (hn : (n + 1) * bytes ≤ 140737488355328) (hn2 : n + 1 ≤ maxLen) (hbase : base ≤ W.heap.size) :
    ∃ v' w', (Builtin.append_ #[t, t] ty #[v, .slice (some ⟨W.heap.size, 0, none⟩) 1 1]).run P (W.alloc (.cells news.toArray e)) = .ok v' w' ∧
      w'.ownsRow base e size v' (n + 1) (xs ++ news) ∧ W.grownBy w' v.ownBlock := by
  obtain ⟨i, hi, h2, h3, h4⟩ := info_parts hinfo
  obtain ⟨v', w', hr, ho, hg, _⟩ := run_append_own (P := P) (W.alloc (.cells news.toArray e)) base t ty e i z size bytes ht hi h2 h3 h4 hzs hsz v n xs (hown.alloc _) ⟨W.heap.size, 0, none⟩ 1 1 news (by simpa using hl)
    (by intro j u hj; rw [addr_add]; exact cell_of_heap (heap_new _ _) (by simpa using hj)) h1 hn2 hn (by simp; omega)
  refine ⟨v', w', hr, ho, ⟨hg.os, hg.tape, hg.output, ?_, ?_⟩⟩
  · have := hg.size; simp at this; omega
  · intro k hk hne
    rw [hg.block k (by simp; omega) hne, Below.heap_alloc W _ k hk]

theorem wpList_app1 {P : Program} {ops : Array Oper} {rest : List Oper} {o : Oper} {a : Act} {Q : Exit → Act → World → Prop} (hgd : o.guard = none) (s x : Operand) (t : TypeId)
    (ho : o.op = .call { callee := .builtin .append, args := #[s, x], argTypes := #[t, t] }) {e : TypeId} {z : Value} {size bytes : Nat}
    (hinfo : (P.info? e).map (fun i => (i.zero, i.size, i.bytes)) = some (some z, size, bytes)) (ht : P.underlying t = some (.slice e))
    (hzs : z.cells.size = size) (hsz : 0 < size ∧ 0 < bytes) {W : World} {base : Nat} {v : Value} {n : Nat} {xs : List Value} (hown : W.ownsRow base e size v n xs)
    (news : List Value) (hs : a.eval s = v) {g : Nat} (hx : a.eval x = .slice (some ⟨g, 0, none⟩) 1 1) (hgs : g = W.heap.size) (hl : news.length = size ∧ ∀ u ∈ news, u.oneCell' = true) (hn : (n + 1) * bytes ≤ 140737488355328) (hbase : base ≤ W.heap.size)
    (h : ∀ v' w', w'.ownsRow base e size v' (n + 1) (xs ++ news) → W.grownBy w' v.ownBlock → wpList P ops Q rest (a.put o.dst v') w') : wpList P ops Q (o :: rest) a (W.alloc (.cells news.toArray e)) := by
  subst hgs
  obtain ⟨i, hi, h2, h3, h4⟩ := info_parts hinfo
  have hn2 : n + 1 ≤ maxLen := by
    have h5 : (n + 1) * 1 ≤ (n + 1) * bytes := Nat.mul_le_mul_left _ hsz.2
    unfold maxLen; omega
  refine wpList_append_own _ hgd s x t ho base e i z size bytes ht hi h2 h3 h4 hzs hsz.1 v n xs hs (hown.alloc _) ⟨W.heap.size, 0, none⟩ 1 1 news hx (by simpa using hl.1) ?_ hl.2 hn2 hn (by simp; omega) ?_
  · intro j u hj; rw [addr_add]; exact cell_of_heap (heap_new _ _) (by simpa using hj)
  · intro v' w' ho' hg _
    refine h v' w' ho' ⟨hg.os, hg.tape, hg.output, ?_, ?_⟩
    · have := hg.size; simp at this; omega
    · intro k hk hne
      rw [hg.block k (by simp; omega) hne, Below.heap_alloc W _ k hk]

theorem blk {w : World} {b : Nat} {c : Array Value} {T : TypeId} (h : w.heap[b]? = some (.cells c T (0, 0))) : b < w.heap.size ∧ (∀ i, w.cell? ⟨b, i, none⟩ = c[i]?) ∧ (∀ i, w.frozen? ⟨b, i, none⟩ = false) :=
  ⟨heap_lt h, fun i => by simp [World.cell?, h], fun i => free_of_heap h i⟩
/-- a block that stood there stands -/
theorem below_heap {B : Nat} {W w : World} (h : Below B W w) {b : Nat} {x : Obj} (hb : b < B) (hx : W.heap[b]? = some x) : w.heap[b]? = some x := by rw [h.block b hb, hx]
theorem bcell {W w1 : World} (hb : Below W.heap.size W w1) : (∀ b o, b < W.heap.size → w1.cell? ⟨b, o, none⟩ = W.cell? ⟨b, o, none⟩) ∧ (∀ b o, b < W.heap.size → w1.frozen? ⟨b, o, none⟩ = W.frozen? ⟨b, o, none⟩) :=
  ⟨fun b o h => hb.cell (p := ⟨b, o, none⟩) h, fun b o h => hb.frozen (p := ⟨b, o, none⟩) h⟩
def TrueBelow (w : World) (e : Ending) (w' : World) : Prop := e = .returned (.bool true) ∧ Below w.heap.size w w'

theorem flat_get {α : Type} {f : α → List Value} {k : Nat} (hf : ∀ x, (f x).length = k) (l : List α) : ∀ (j r : Nat), r < k → (l.flatMap f)[j * k + r]? = (l[j]?).bind fun x => (f x)[r]? := by
  induction l with
  | nil => intro j r _; simp
  | cons x l ih =>
    intro j r hr
    rw [List.flatMap_cons]
    cases j with
    | zero => rw [Nat.zero_mul, Nat.zero_add, List.getElem?_append_left (by rw [hf]; exact hr)]; simp
    | succ j =>
      rw [List.getElem?_append_right (by rw [hf, Nat.succ_mul]; omega), hf]
      have : (j + 1) * k + r - k = j * k + r := by rw [Nat.succ_mul]; omega
      rw [this, ih j r hr]; simp
theorem flat_len {α : Type} {f : α → List Value} {k : Nat} (hf : ∀ x, (f x).length = k) (l : List α) : (l.flatMap f).length = l.length * k := by
  induction l with
  | nil => simp
  | cons x l ih => rw [List.flatMap_cons, List.length_append, hf, ih, List.length_cons, Nat.succ_mul]; omega

/-- an owned row that is not empty -/
theorem own_some {w : World} {B : Nat} {e : TypeId} {size : Nat} {v : Value} {n : Nat} {xs : List Value} (h : w.ownsRow B e size v n xs) (hn : 0 < n) :
    ∃ g cap, v = .slice (some ⟨g, 0, none⟩) n cap ∧ B ≤ g ∧ n ≤ cap ∧ cap ≤ maxLen ∧ g < w.heap.size ∧ (∀ j u, xs[j]? = some u → w.cell? ⟨g, j, none⟩ = some u) ∧ (∀ j, w.frozen? ⟨g, j, none⟩ = false) := by
  rcases h.2 with h2 | ⟨g, cap, cur, rfl, hg, hh, h3, h4, h5, h6⟩
  · omega
  · refine ⟨g, cap, rfl, hg, h3, h4, heap_lt hh, ?_, fun j => free_of_heap hh j⟩
    intro j u hj
    refine cell_of_heap hh ?_
    rw [← h6, List.getElem?_take] at hj
    split at hj
    · simpa using hj
    · cases hj

/-! ### slices as values -/
@[go_sem] theorem eql_slice_nil {P : Program} {w : World} (t e : TypeId) (a : Option Addr) (l c : Nat) (h : P.underlying t = some (.slice e)) : (binOp .eql t (.slice a l c) (.slice none 0 0)).run P w = .ok (.bool a.isNone) w := Lib.run_eql_slice_nil w t e a l c 0 0 h

/-- where 's[l:]' begins -/
def slAddr (a : Option Addr) (cap l size : Nat) : Option Addr := if cap = l then a else a.map (·.add (l * size))

theorem run_sl2 {P : Program} {w : World} {t e : TypeId} {i : TypeInfo} (ht : P.underlying t = some (.slice e)) (hi : P.info? e = some i) (a : Option Addr) (n cap : Nat) (k k' : IntKind) (l h : Int) (b : 0 ≤ l ∧ l ≤ h ∧ h ≤ cap) :
    (Instr.sliceAt t (.slice a n cap) (some (.int k l)) (some (.int k' h)) none).run P w = .ok (.slice (slAddr a cap l.toNat i.size) (h.toNat - l.toNat) (cap - l.toNat)) w := by
  have h1 : (0 : Int) ≤ h := by omega
  obtain ⟨m, rfl⟩ := Int.eq_ofNat_of_zero_le h1
  have h4 : l ≤ (m : Int) := by omega
  have h5 : m ≤ cap := by omega
  simp [Instr.sliceAt, Instr.slice, Instr.sliceBounds, Instr.sliceBound, asIntOf, run_underlying ht, sizeOf, typeInfo, hi, b.1, h5, h4, slAddr, go_sem]
theorem run_slFrom {P : Program} {w : World} {t e : TypeId} {i : TypeInfo} (ht : P.underlying t = some (.slice e)) (hi : P.info? e = some i) (a : Option Addr) (n cap : Nat) (k : IntKind) (l : Int) (b : 0 ≤ l ∧ l ≤ n) :
    (Instr.sliceAt t (.slice a n cap) (some (.int k l)) none none).run P w = .ok (.slice (slAddr a cap l.toNat i.size) (n - l.toNat) (cap - l.toNat)) w := by
  simp [Instr.sliceAt, Instr.slice, Instr.sliceBounds, Instr.sliceBound, asIntOf, run_underlying ht, sizeOf, typeInfo, hi, b.1, b.2, slAddr, go_sem]
theorem run_slTo {P : Program} {w : World} {t e : TypeId} {i : TypeInfo} (ht : P.underlying t = some (.slice e)) (hi : P.info? e = some i) (a : Option Addr) (n cap : Nat) (k : IntKind) (h : Int) (b : 0 ≤ h ∧ h ≤ cap) :
    (Instr.sliceAt t (.slice a n cap) none (some (.int k h)) none).run P w = .ok (.slice a h.toNat cap) w := by
  by_cases hc : cap = 0
  · subst hc
    obtain rfl : h = 0 := by have := b.2; simp at this; omega
    simp [Instr.sliceAt, Instr.slice, Instr.sliceBounds, Instr.sliceBound, asIntOf, run_underlying ht, sizeOf, typeInfo, hi, go_sem]
  · simp [Instr.sliceAt, Instr.slice, Instr.sliceBounds, Instr.sliceBound, asIntOf, run_underlying ht, sizeOf, typeInfo, hi, b.1, b.2, go_sem, Addr.add]

section
variable {P : Program} {ops : Array Oper} {rest : List Oper} {o : Oper} {a : Act} {w : World} {Q : Exit → Act → World → Prop}
theorem wpList_sl2 (hgd : o.guard = none) (t : TypeId) (x lo hi : Operand) (ho : o.op = .slice t x (some lo) (some hi) none) {e : TypeId} {z : Value} {size bytes : Nat} (ht : P.underlying t = some (.slice e)) (hinfo : (P.info? e).map (fun i => (i.zero, i.size, i.bytes)) = some (some z, size, bytes))
    {av : Option Addr} {n cap : Nat} {k k' : IntKind} {l h : Int} (hx : a.eval x = .slice av n cap) (hl : a.eval lo = .int k l) (hh : a.eval hi = .int k' h) (b : 0 ≤ l ∧ l ≤ h ∧ h ≤ cap)
    (hk : wpList P ops Q rest (a.put o.dst (.slice (slAddr av cap l.toNat size) (h.toNat - l.toNat) (cap - l.toNat))) w) : wpList P ops Q (o :: rest) a w := by
  obtain ⟨i, hi, h2, rfl, h4⟩ := info_parts hinfo
  refine wpList_plain hgd fun K hK => ?_
  unfold Oper.wp
  simp [execOp, ho, hx, hl, hh, run_sl2 ht hi av n cap k k' l h b, Result.andThen]
  exact hK _ _ hk
theorem wpList_slFrom (hgd : o.guard = none) (t : TypeId) (x lo : Operand) (ho : o.op = .slice t x (some lo) none none) {e : TypeId} {z : Value} {size bytes : Nat} (ht : P.underlying t = some (.slice e)) (hinfo : (P.info? e).map (fun i => (i.zero, i.size, i.bytes)) = some (some z, size, bytes))
    {av : Option Addr} {n cap : Nat} {k : IntKind} {l : Int} (hx : a.eval x = .slice av n cap) (hl : a.eval lo = .int k l) (b : 0 ≤ l ∧ l ≤ n)
    (hk : wpList P ops Q rest (a.put o.dst (.slice (slAddr av cap l.toNat size) (n - l.toNat) (cap - l.toNat))) w) : wpList P ops Q (o :: rest) a w := by
  obtain ⟨i, hi, h2, rfl, h4⟩ := info_parts hinfo
  refine wpList_plain hgd fun K hK => ?_
  unfold Oper.wp
  simp [execOp, ho, hx, hl, run_slFrom ht hi av n cap k l b, Result.andThen]
  exact hK _ _ hk
theorem wpList_slTo (hgd : o.guard = none) (t : TypeId) (x hi : Operand) (ho : o.op = .slice t x none (some hi) none) {e : TypeId} {z : Value} {size bytes : Nat} (ht : P.underlying t = some (.slice e)) (hinfo : (P.info? e).map (fun i => (i.zero, i.size, i.bytes)) = some (some z, size, bytes))
    {av : Option Addr} {n cap : Nat} {k : IntKind} {h : Int} (hx : a.eval x = .slice av n cap) (hh : a.eval hi = .int k h) (b : 0 ≤ h ∧ h ≤ cap)
    (hk : wpList P ops Q rest (a.put o.dst (.slice av h.toNat cap)) w) : wpList P ops Q (o :: rest) a w := by
  obtain ⟨i, hi, h2, rfl, h4⟩ := info_parts hinfo
  refine wpList_plain hgd fun K hK => ?_
  unfold Oper.wp
  simp [execOp, ho, hx, hh, run_slTo ht hi av n cap k h b, Result.andThen]
  exact hK _ _ hk
end

theorem spot_none {w : World} {a : Addr} {u : Value} (h : w.cell? a = some u) : a.spot = none := by
  unfold World.cell? at h
  split at h
  · split at h
    · cases h
    · rename_i hs; simpa using hs
  · cases h
/-- the slice value v has n elements of 'size' cells, which are xs -/
def Rd (w : World) (size : Nat) (v : Value) (n : Nat) (xs : List Value) : Prop :=
  (v = .slice none 0 0 ∧ n = 0 ∧ xs = []) ∨ ∃ a cap, v = .slice (some a) n cap ∧ n ≤ cap ∧ cap ≤ maxLen ∧ xs.length = n * size ∧ ∀ j u, xs[j]? = some u → w.cell? (a.add j) = some u

theorem Rd.nil (w : World) (size : Nat) : Rd w size (.slice none 0 0) 0 [] := .inl ⟨rfl, rfl, rfl⟩
theorem Rd.len {w : World} {size n : Nat} {v : Value} {xs : List Value} (h : Rd w size v n xs) : xs.length = n * size := by
  rcases h with ⟨_, rfl, rfl⟩ | ⟨_, _, _, _, _, h, _⟩
  · simp
  · exact h
theorem Rd.maxLen {w : World} {size n : Nat} {v : Value} {xs : List Value} (h : Rd w size v n xs) : n ≤ 9223372036854775807 := by
  rcases h with ⟨_, rfl, rfl⟩ | ⟨_, _, _, h1, h2, _, _⟩
  · omega
  · unfold Go.maxLen at h2; omega
theorem Rd.of_own {w : World} {B : Nat} {e : TypeId} {size : Nat} {v : Value} {n : Nat} {xs : List Value} (h : w.ownsRow B e size v n xs) : Rd w size v n xs := by
  rcases Nat.eq_zero_or_pos n with rfl | hn
  · have hx : xs = [] := List.eq_nil_of_length_eq_zero (by simpa using h.1)
    rcases h.2 with ⟨rfl, _⟩ | ⟨g, cap, cur, rfl, hg, hh, h3, h4, h5, h6⟩
    · exact .inl ⟨rfl, rfl, hx⟩
    · exact .inr ⟨_, cap, rfl, h3, h4, h.1, by rw [hx]; simp⟩
  · obtain ⟨g, cap, rfl, _, h3, h4, _, hc, _⟩ := own_some h hn
    exact .inr ⟨_, cap, rfl, h3, h4, h.1, fun j u hj => by rw [addr_add]; simpa using hc j u hj⟩
theorem Rd.cells {w w' : World} {size n : Nat} {v : Value} {xs : List Value} (h : Rd w size v n xs) (hc : ∀ b o, b < w.heap.size → w'.cell? ⟨b, o, none⟩ = w.cell? ⟨b, o, none⟩) : Rd w' size v n xs := by
  rcases h with h | ⟨a, cap, rfl, h1, h2, h3, h4⟩
  · exact .inl h
  · refine .inr ⟨a, cap, rfl, h1, h2, h3, fun j u hj => ?_⟩
    have h5 := h4 j u hj
    have h6 := World.block_lt_of_cell? w _ h5
    have h7 := spot_none h5
    have h8 : a.add j = ⟨(a.add j).block, (a.add j).off, none⟩ := by rw [← h7]
    rw [h8] at h5 ⊢
    rw [hc _ _ h6, h5]
theorem Rd.below {w w' : World} {size n : Nat} {v : Value} {xs : List Value} (h : Rd w size v n xs) (hb : Below w.heap.size w w') : Rd w' size v n xs := h.cells (bcell hb).1
theorem Rd.alloc {w : World} {size n : Nat} {v : Value} {xs : List Value} (h : Rd w size v n xs) (o : Obj) : Rd (w.alloc o) size v n xs := h.below ((Below.refl _ _).alloc (Nat.le_refl _) o)
theorem Rd.dn {w : World} {size n m : Nat} {v : Value} {xs : List Value} (h : Rd w size v n xs) : Rd (w.drewN m) size v n xs := h
/-- the value written out; each cell -/
theorem Rd.form {w : World} {size n : Nat} {v : Value} {xs : List Value} (h : Rd w size v n xs) : ∃ a cap, v = .slice a n cap ∧ n ≤ cap ∧ cap ≤ 9223372036854775807 := by
  rcases h with ⟨rfl, rfl, _⟩ | ⟨a, cap, rfl, h1, h2, _⟩
  · exact ⟨none, 0, rfl, Nat.le_refl _, by omega⟩
  · exact ⟨some a, cap, rfl, h1, by unfold Go.maxLen at h2; omega⟩
theorem Rd.some {w : World} {size n : Nat} {v : Value} {xs : List Value} (h : Rd w size v n xs) (hn : 0 < n) (hs : 0 < size) : ∃ b o cap, v = .slice (some ⟨b, o, none⟩) n cap ∧ n ≤ cap ∧ cap ≤ 9223372036854775807 ∧ b < w.heap.size ∧ ∀ j u, xs[j]? = some u → w.cell? ⟨b, o + j, none⟩ = some u := by
  rcases h with ⟨_, rfl, _⟩ | ⟨a, cap, rfl, h1, h2, h3, h4⟩
  · omega
  · have hpos : 0 < xs.length := by rw [h3]; exact Nat.mul_pos hn hs
    have h5 := h4 0 xs[0] (by simp [hpos])
    have h6 := World.block_lt_of_cell? w _ h5
    have ha : a.add 0 = a := by simp [Addr.add]
    rw [ha] at h5 h6
    have h7 := spot_none h5
    obtain ⟨b, o, sp⟩ := a
    simp only at h7
    subst h7
    exact ⟨b, o, cap, rfl, h1, by unfold Go.maxLen at h2; omega, h6, fun j u hj => by rw [← addr_add]; exact h4 j u hj⟩
/-- a part of it -/
theorem Rd.sub {w : World} {size n cap : Nat} {a : Option Addr} {xs : List Value} (h : Rd w size (.slice a n cap) n xs) (l m : Nat) (hl : l ≤ m) (hm : m ≤ n) : Rd w size (.slice (slAddr a cap l size) (m - l) (cap - l)) (m - l) ((xs.drop (l * size)).take ((m - l) * size)) := by
  rcases h with ⟨h0, rfl, rfl⟩ | ⟨b, cap', h0, h1, h2, h3, h4⟩
  · cases h0
    obtain rfl : l = 0 := by omega
    obtain rfl : m = 0 := by omega
    exact .inl ⟨by simp [slAddr], rfl, by simp⟩
  · cases h0
    have hlen : ((xs.drop (l * size)).take ((m - l) * size)).length = (m - l) * size := by
      rw [List.length_take, List.length_drop, h3]
      have : m * size ≤ n * size := Nat.mul_le_mul_right _ hm
      have h7 : (m - l) * size = m * size - l * size := Nat.sub_mul _ _ _
      omega
    by_cases hc : cap = l
    · refine .inr ⟨b, cap - l, by simp [slAddr, hc], by omega, by omega, hlen, ?_⟩
      intro j u hj
      have : m - l = 0 := by omega
      rw [this] at hj; simp at hj
    · refine .inr ⟨b.add (l * size), cap - l, by simp [slAddr, hc], by omega, by omega, hlen, ?_⟩
      intro j u hj
      rw [List.getElem?_take] at hj
      split at hj
      · rw [List.getElem?_drop] at hj
        have h8 := h4 _ _ hj
        have h9 : (b.add (l * size)).add j = b.add (l * size + j) := by
          unfold Addr.add
          split <;> split <;> split <;> simp_all <;> omega
        rw [h9]; exact h8
      · cases hj

/-- append from whatever source to a row of the call's own -/
theorem wpList_appS {P : Program} {ops : Array Oper} {rest : List Oper} {o : Oper} {a : Act} {w : World} {Q : Exit → Act → World → Prop} (hgd : o.guard = none) (s x : Operand) (t : TypeId)
    (ho : o.op = .call { callee := .builtin .append, args := #[s, x], argTypes := #[t, t] }) {e : TypeId} {z : Value} {size bytes : Nat}
    (hinfo : (P.info? e).map (fun i => (i.zero, i.size, i.bytes)) = some (some z, size, bytes)) (ht : P.underlying t = some (.slice e))
    (hzs : z.cells.size = size) (hsz : 0 < size ∧ 0 < bytes) {base : Nat} {v : Value} {n : Nat} {xs : List Value} (hown : w.ownsRow base e size v n xs)
    {y : Value} {m : Nat} {news : List Value} (hsrc : Rd w size y m news) (hs : a.eval s = v) (hx : a.eval x = y) (h1 : ∀ u ∈ news, u.oneCell' = true) (hn : (n + m) * bytes ≤ 140737488355328) (hbase : base ≤ w.heap.size)
    (h : ∀ v' w', w'.ownsRow base e size v' (n + m) (xs ++ news) → w.grownBy w' v.ownBlock → wpList P ops Q rest (a.put o.dst v') w') : wpList P ops Q (o :: rest) a w := by
  obtain ⟨i, hi, h2, h3, h4⟩ := info_parts hinfo
  have hn2 : n + m ≤ maxLen := by
    have h5 : (n + m) * 1 ≤ (n + m) * bytes := Nat.mul_le_mul_left _ hsz.2
    unfold maxLen; omega
  rcases hsrc with ⟨rfl, rfl, rfl⟩ | ⟨b, cap, rfl, k1, k2, k3, k4⟩
  · refine wpList_append_own_none hgd s x t ho base e i size ht hi v n xs hs hown hx ?_
    exact h v w (by simpa using hown) ⟨rfl, rfl, rfl, Nat.le_refl _, fun _ _ _ => rfl⟩
  · refine wpList_append_own _ hgd s x t ho base e i z size bytes ht hi h2 h3 h4 hzs hsz.1 v n xs hs hown b m cap news hx k3 k4 h1 hn2 hn hbase ?_
    intro v' w' ho' hg _
    exact h v' w' ho' hg

/-- bytes as cells -/
def bcells (l : List UInt8) : List Value := l.map fun b => .int .u8 b.toNat
theorem bcells_one (l : List UInt8) : ∀ u ∈ bcells l, u.oneCell' = true := by
  intro u hu; unfold bcells at hu; rw [List.mem_map] at hu; obtain ⟨b, _, rfl⟩ := hu; rfl
theorem bcells_len (l : List UInt8) : (bcells l).length = l.length := by simp [bcells]
theorem bcells_app (l m : List UInt8) : bcells (l ++ m) = bcells l ++ bcells m := by simp [bcells]
theorem bcells_sub (l : List UInt8) (i k : Nat) : ((bcells l).drop (i * 1)).take (k * 1) = bcells ((l.drop i).take k) := by simp [bcells, List.map_take, List.map_drop]

/-- a string of the bytes of a slice -/
theorem run_str {P : Program} {w : World} {src dst e : TypeId} (hs : P.underlying src = some (.slice e)) (he : P.underlying e = some (.int .u8)) (hd : P.underlying dst = some .string) {v : Value} {l : List UInt8} (h : Rd w 1 v l.length (bcells l)) :
    (convert src dst v).run P w = .ok (.string ⟨l.toArray⟩) w := by
  rcases h with ⟨rfl, h1, h2⟩ | ⟨a, cap, rfl, k1, k2, k3, k4⟩
  · have : l = [] := List.eq_nil_of_length_eq_zero h1
    subst this
    rw [run_convert_bytes_string w src dst e none 0 0 hs he hd]; rfl
  · rw [run_convert_bytes_string w src dst e _ _ _ hs he hd]
    have hl := run_firstCells_some (P := P) w 1 l.length a l.length cap (bcells l) (by simp [bcells]) k4
    have hl2 : (loadCells a l.length).run P w = .ok ((l.map fun b => (b.toNat : Int)).map (Value.int .u8)).toArray w := by
      have := hl
      simp only [Builtin.firstCells, Nat.mul_one] at this
      rw [this]; simp [bcells]
    rw [run_bytesToString w a l.length cap _ hl2]
    congr 2
    have key : ∀ (l : List UInt8) (s : ByteArray), (l.map fun b => (b.toNat : Int)).foldl (fun r n => r.push (UInt8.ofNat n.toNat)) s = ⟨s.data ++ l.toArray⟩ := by
      intro l
      induction l with
      | nil => intro s; simp
      | cons b l ih =>
        intro s
        rw [List.map_cons, List.foldl_cons, ih]
        show (⟨s.data.push (UInt8.ofNat (Int.toNat b.toNat)) ++ l.toArray⟩ : ByteArray) = _
        simp
    rw [key]; simp [ByteArray.empty, ByteArray.emptyWithCapacity]; rfl
theorem wpList_str {P : Program} {ops : Array Oper} {rest : List Oper} {o : Oper} {a : Act} {w : World} {Q : Exit → Act → World → Prop} (hw : Region.wanted o (yielded ops a.tmps) = true) (src dst : TypeId) (x : Operand) (ho : o.op = .convert src dst x) {e : TypeId}
    (hs : P.underlying src = some (.slice e)) (he : P.underlying e = some (.int .u8)) (hd : P.underlying dst = some .string) {v : Value} {l : List UInt8} (h : Rd w 1 v l.length (bcells l)) (hx : a.eval x = v)
    (hk : wpList P ops Q rest (a.put o.dst (.string ⟨l.toArray⟩)) w) : wpList P ops Q (o :: rest) a w := by
  refine BigFrame.wpList_want hw fun K hK => ?_
  unfold Oper.wp
  simp [execOp, ho, hx, run_str hs he hd h, Result.andThen]
  exact hK _ _ hk

theorem below_own {w w' : World} {B : Nat} {e : TypeId} {size : Nat} {v : Value} {n : Nat} {xs : List Value} (h : w.ownsRow B e size v n xs) (hb : Below w.heap.size w w') : w'.ownsRow B e size v n xs :=
  h.kept (row := none) ⟨hb.os, hb.tape, hb.output, hb.size, fun k hk _ => hb.block k hk⟩ (by cases v.ownBlock <;> simp)
theorem grown_below {w w' : World} {B : Nat} {e : TypeId} {size : Nat} {v : Value} {n : Nat} {xs : List Value} (h : w.ownsRow B e size v n xs) (hg : w.grownBy w' v.ownBlock) (hB : B ≤ w.heap.size) : Below B w w' :=
  (Below.refl B w).grown hg hB fun k hk => (h.lt k hk).1

/-- what a region that draws its order may rely on: all that was there is there -/
theorem sb_start (W : World) : Below W.heap.size W W.drew ∧ ∀ b o, b < W.heap.size → W.drew.cell? ⟨b, o, none⟩ = W.cell? ⟨b, o, none⟩ :=
  ⟨(Below.refl _ _).drew, fun _ _ _ => rfl⟩
theorem sb_step {W w1 w2 : World} (h1 : Below W.heap.size W w1 ∧ ∀ b o, b < W.heap.size → w1.cell? ⟨b, o, none⟩ = W.cell? ⟨b, o, none⟩) (h : Below w1.heap.size w1 w2) :
    Below W.heap.size W w2 ∧ ∀ b o, b < W.heap.size → w2.cell? ⟨b, o, none⟩ = W.cell? ⟨b, o, none⟩ :=
  have h2 := h1.1.trans (h.mono h1.1.size)
  ⟨h2, (bcell h2).1⟩

/-- in a region that draws: a string of the bytes of a slice -/
theorem step_str {P : Program} {ops : Array Oper} {o : Oper} {a : Act} {w : World} {K : Act → World → Prop} {Q : Exit → Act → World → Prop} {E : Prop} (hw : Region.wanted o (yielded ops a.tmps) = true) (src dst : TypeId) (x : Operand) (ho : o.op = .convert src dst x) {e : TypeId}
    (hs : P.underlying src = some (.slice e)) (he : P.underlying e = some (.int .u8)) (hd : P.underlying dst = some .string) {v : Value} {l : List UInt8} (hx : a.eval x = v) (h : Rd w 1 v l.length (bcells l))
    (hk : K (a.put o.dst (.string ⟨l.toArray⟩)) w) : if Region.wanted o (yielded ops a.tmps) = true then Oper.wp P o a w K Q else E := by
  rw [if_pos hw]
  unfold Oper.wp
  simp [execOp, ho, hx, run_str hs he hd h, Result.andThen]
  exact hk

end Go.Proofs.YtajhndakkaniaaaGreatDoor
