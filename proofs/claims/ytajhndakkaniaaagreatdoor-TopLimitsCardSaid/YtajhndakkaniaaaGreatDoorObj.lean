/- Objects: blocks known whole, that methods change. General lemmas; no program in sight. -/
import Derived.Test.YtajhndakkaniaaaGreatDoorOrd
import Derived.Deep.Heap
import Derived.StillTailTactics
namespace Go.Proofs.YtajhndakkaniaaaGreatDoor
open Go.RowKit

/-- block b holds these cells -/
def Ob (w : World) (b : Nat) (cs : Array Value) (T : TypeId) : Prop := w.heap[b]? = some (.cells cs T (0, 0))
theorem Ob.of {w : World} {b : Nat} {cs : Array Value} {T : TypeId} (h : w.heap[b]? = some (.cells cs T (0, 0))) : Ob w b cs T := h
theorem Ob.blk {w : World} {b : Nat} {cs : Array Value} {T : TypeId} (h : Ob w b cs T) : b < w.heap.size ∧ (∀ i, w.cell? ⟨b, i, none⟩ = cs[i]?) ∧ (∀ i, w.frozen? ⟨b, i, none⟩ = false) := Go.Proofs.YtajhndakkaniaaaGreatDoor.blk h
theorem Ob.lt {w : World} {b : Nat} {cs : Array Value} {T : TypeId} (h : Ob w b cs T) : b < w.heap.size := heap_lt h
theorem Ob.new (w : World) (cs : Array Value) (T : TypeId) : Ob (w.alloc (.cells cs T)) w.heap.size cs T := heap_new w _
theorem Ob.set {w : World} {b : Nat} {cs : Array Value} {T : TypeId} (h : Ob w b cs T) (i : Nat) (v : Value) : Ob (w.setCell ⟨b, i, none⟩ v) b (cs.setIfInBounds i v) T := by
  have h' : w.heap[b]? = some (.cells cs T (0, 0)) := h
  show (w.setCell ⟨b, i, none⟩ v).heap[b]? = _
  simp [World.setCell, Array.getElem?_modify, h']
theorem Ob.other {w : World} {b : Nat} {cs : Array Value} {T : TypeId} (h : Ob w b cs T) (a : Addr) (v : Value) (hne : b ≠ a.block) : Ob (w.setCell a v) b cs T :=
  (Go.Deep.blk_setCell_other w a v b hne).trans h
theorem Ob.cast {w : World} {b : Nat} {cs cs' : Array Value} {T : TypeId} (h : Ob w b cs T) (e : cs = cs') : Ob w b cs' T := e ▸ h
theorem Ob.heap {w w' : World} {b : Nat} {cs : Array Value} {T : TypeId} (h : Ob w b cs T) (e : w'.heap = w.heap) : Ob w' b cs T := by unfold Ob at *; rw [e]; exact h
theorem Ob.alloc {w : World} {b : Nat} {cs : Array Value} {T : TypeId} (h : Ob w b cs T) (o : Obj) : Ob (w.alloc o) b cs T := heap_old o h
theorem Ob.drew {w : World} {b : Nat} {cs : Array Value} {T : TypeId} (h : Ob w b cs T) : Ob w.drew b cs T := h
theorem Ob.dn {w : World} {b n : Nat} {cs : Array Value} {T : TypeId} (h : Ob w b cs T) : Ob (w.drewN n) b cs T := h
theorem Ob.kept {M : Nat → Prop} {w w' : World} {b : Nat} {cs : Array Value} {T : TypeId} (h : Ob w b cs T) (hk : Kept M w w') (hm : ¬ M b) : Ob w' b cs T := hk.heap h hm
theorem Ob.below {w w' : World} {b : Nat} {cs : Array Value} {T : TypeId} (h : Ob w b cs T) (hk : Below w.heap.size w w') : Ob w' b cs T := below_heap hk h.lt h

theorem Kept.set {M : Nat → Prop} {w w' : World} (h : Kept M w w') (a : Addr) (v : Value) (hm : a.block < w.heap.size → M a.block) : Kept M w (w'.setCell a v) := by
  refine ⟨h.os, h.tape, h.output, ?_, fun b hb hn => ?_⟩
  · have := h.size; rw [Go.Deep.nblk_setCell]; omega
  · rw [← h.block b hb hn]
    refine Go.Deep.blk_setCell_other w' a v b fun h2 => ?_
    subst h2; exact absurd (hm hb) hn
def Only (b : Nat) : Nat → Prop := fun x => x = b
theorem Kept.setO {b i : Nat} {w w' : World} {v : Value} (h : Kept (Only b) w w') : Kept (Only b) w (w'.setCell ⟨b, i, none⟩ v) := h.set _ _ (fun _ => (rfl : b = b))
theorem Kept.alloc {M : Nat → Prop} {w w' : World} (h : Kept M w w') (o : Obj) : Kept M w (w'.alloc o) :=
  h.trans (Kept.of_below ((Below.refl _ _).alloc (Nat.le_refl _) o))
theorem Kept.drewR {M : Nat → Prop} {w w' : World} (h : Kept M w w') : Kept M w w'.drew := h.trans (Kept.drew M _)
theorem Kept.dnR {M : Nat → Prop} {w w' : World} (h : Kept M w w') (n : Nat) : Kept M w (w'.drewN n) := h.trans (Kept.dn M _ n)
/-- only blocks that are new have changed -/
theorem Kept.belowAt {M : Nat → Prop} {B : Nat} {w w' : World} (h : Kept M w w') (hB : B ≤ w.heap.size) (hM : ∀ b, M b → B ≤ b) : Below B w w' :=
  ⟨h.os, h.tape, h.output, h.size, fun b hb => h.block b (Nat.lt_of_lt_of_le hb hB) fun hm => by have := hM b hm; omega⟩
theorem Rd.kept {M : Nat → Prop} {w w' : World} {size n : Nat} {v : Value} {xs : List Value} (h : Rd w size v n xs) (hk : Kept M w w') (hM : ∀ a l c, v = .slice (Option.some a) l c → ¬ M a.block) : Rd w' size v n xs := by
  rcases h with h | ⟨a, cap, rfl, h1, h2, h3, h4⟩
  · exact .inl h
  · refine .inr ⟨a, cap, rfl, h1, h2, h3, fun j u hj => ?_⟩
    have h5 := h4 j u hj
    have h6 := World.block_lt_of_cell? w _ h5
    have h7 := spot_none h5
    have h8 : a.add j = ⟨(a.add j).block, (a.add j).off, none⟩ := by rw [← h7]
    have h9 : (a.add j).block = a.block := by unfold Addr.add; split <;> rfl
    rw [h8] at h5 ⊢
    rw [hk.cell _ _ h6 (by rw [h9]; exact hM a _ _ rfl), h5]
/-- element i of a slice of rows -/
theorem Rd.row {α : Type} {row : α → List Value} {k : Nat} (hr : ∀ x, (row x).length = k) (hk : 0 < k) {w : World} {v : Option Addr} {cap : Nat} {l : List α} (h : Rd w k (.slice v l.length cap) l.length (l.flatMap row)) (i : Nat) (hi : i < l.length) :
    ∃ b o, v = Option.some ⟨b, o, none⟩ ∧ b < w.heap.size ∧ ∀ j u, (row l[i])[j]? = Option.some u → w.cell? ⟨b, o + i * k + j, none⟩ = Option.some u := by
  obtain ⟨b, o, c, he, _, _, hb, hc⟩ := h.some (by omega) hk
  cases he
  refine ⟨b, o, rfl, hb, fun j u hj => ?_⟩
  have hjk : j < k := by have := (List.getElem?_eq_some_iff.1 hj).1; rw [hr] at this; exact this
  rw [Nat.add_assoc]
  refine hc _ _ ?_
  rw [flat_get hr l i j hjk, List.getElem?_eq_getElem hi]
  exact hj
/-- a region that draws: n operations that only read or compute, then a forced tail -/
theorem region_tail {P : Program} {id : Nat} {Q : Exit → Act → World → Prop} {a : Act} {w : World} {l : List Oper} (n : Nat) (hm : P.follows .mixedOrders = true) (hB : Region.lexTailB .any l.toArray n = true)
    (h : wpStill P l.toArray w.drew (fun a' => wpList P l.toArray Q (l.drop n) a' w.drew) (l.take n) a) : (Code.region id l.toArray true).wp P Q a w := wp_region_still_tail n hm hB h
theorem quietS {P : Program} {f : FuncId} {args : Array Value} {w : World} {n : Nat} {v : Value}
    (h : Calls P f args (w.drewN n) fun e w' => e = .returned v ∧ w.drewN n = w') : Calls P f args (w.drewN n) fun e w'' => e = .returned v ∧ ∃ m, w'' = w.drewN m :=
  h.mono fun _ _ ⟨he, hm⟩ => ⟨he, n, hm.symm⟩
theorem quietA {P : Program} {f : FuncId} {args : Array Value} {w : World} {a n : Nat} {v : Value}
    (h : Calls P f args (w.drewN (a + n)) fun e w' => e = .returned v ∧ w.drewN (a + n) = w') :
    Calls P f args (w.drewN (a + n)) fun e w'' => e = .returned v ∧ ∃ m, w'' = w.drewN (a + m) :=
  h.mono fun _ _ ⟨he, hm⟩ => ⟨he, n, hm.symm⟩
/-- a call that only computes, in a region that draws -/
theorem still {P : Program} {f : FuncId} {args : Array Value} {w : World} {v : Value} (h : Calls P f args w fun e w' => e = .returned v ∧ w = w') : Calls P f args w fun e w' => e = .returned v ∧ w' = w :=
  h.mono fun _ _ ⟨he, hw⟩ => ⟨he, hw.symm⟩
end Go.Proofs.YtajhndakkaniaaaGreatDoor
