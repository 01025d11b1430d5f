/- Rows that take one more in their midst. General lemmas; no program in sight. -/
import Derived.Test.YtgfkgbampoocdaaGreatDoorSlices
import Derived.Shelf.Spec.SlicesInsertGrow
namespace Go.Proofs.YtgfkgbampoocdaaGreatDoor
open Go.RowKit

def Lk (v : Value) : Nat → Prop := fun x => v.ownBlock = some x
def InsPost (B : Nat) (T : TypeId) (k : Nat) (V : Value) (N : Nat) (out : List Value) (w : World) (e : Ending) (w' : World) : Prop :=
  ∃ V', e = .returned V' ∧ w'.ownsRow B T k V' N out ∧ Kept (Lk V) w w' ∧ (V'.ownBlock = V.ownBlock ∨ V'.ownBlock = some w.heap.size)
theorem ownBlock_cap (a : Option Addr) (n c c' : Nat) : (Value.slice a n c).ownBlock = (Value.slice a n c').ownBlock := by cases a <;> rfl
theorem run_copy_k {P : Program} (w : World) (dT sT ty elem : TypeId) (b o dLen dCap : Nat) (a : Addr) (sLen sCap : Nat) (cs : List Value) (k : Nat)
    (hu : P.underlying dT = some (.slice elem)) (hs : (P.info? elem).map (·.size) = some k) (hn : cs.length = Nat.min sLen dLen * k)
    (hsrc : ∀ j v, cs[j]? = some v → w.cell? (a.add j) = some v) (hc : ∀ j, j < cs.length → (w.cell? ⟨b, o + j, none⟩).isSome = true) (hf : ∀ j, j < cs.length → w.frozen? ⟨b, o + j, none⟩ = false) (h1 : ∀ v ∈ cs, v.oneCell' = true) :
    (Builtin.copy_ #[dT, sT] ty #[.slice (some ⟨b, o, none⟩) dLen dCap, .slice (some a) sLen sCap]).run P w = .ok (goInt (Nat.min sLen dLen)) (w.setCells b o cs) := by
  have hl := run_loadCells_list (P := P) w a cs hsrc
  have hst := run_storeCells_cells (P := P) b o cs 0 w (by simpa using hc) (by simpa using hf) h1
  cases hq : P.info? elem with
  | none => simp [hq] at hs
  | some i =>
    have hi : i.size = k := by simpa [hq] using hs
    simp [Builtin.copy_, run_underlying hu, Builtin.lenOf, Builtin.firstCells, sizeOf, typeInfo, hq, hi, ← hn, hl, hst]
theorem wpList_appAt {P : Program} {ops : Array Oper} {rest : List Oper} {o : Oper} {a : Act} {w : World} {Q : Exit → Act → World → Prop} (hgd : o.guard = none) (s x : Operand) (t : TypeId)
    (ho : o.op = .call { callee := .builtin .append, args := #[s, x], argTypes := #[t, t] }) {e : TypeId} {z : Value} {size bytes : Nat}
    (hinfo : (P.info? e).map (fun i => (i.zero, i.size, i.bytes)) = some (some z, size, bytes)) (ht : P.underlying t = some (.slice e))
    (hzs : z.cells.size = size) (hsz : 0 < size ∧ 0 < bytes) {base : Nat} {v : Value} {n : Nat} {xs : List Value} (hown : w.ownsRow base e size v n xs)
    {y : Value} {m : Nat} {news : List Value} (hsrc : Rd w size y m news) (hs : a.eval s = v) (hx : a.eval x = y) (h1 : ∀ u ∈ news, u.oneCell' = true) (hn : (n + m) * bytes ≤ 140737488355328) (hbase : base ≤ w.heap.size)
    (h : ∀ v' w', w'.ownsRow base e size v' (n + m) (xs ++ news) → w.grownBy w' v.ownBlock → (v'.ownBlock = v.ownBlock ∨ v'.ownBlock = some w.heap.size) → wpList P ops Q rest (a.put o.dst v') w') : wpList P ops Q (o :: rest) a w :=
  wpList_plain hgd fun _ hK => wp_appAt s x t ho hinfo ht hzs hsz hown hsrc hs hx h1 hn hbase fun v' w' h1 h2 h3 => hK _ _ (h v' w' h1 h2 h3)
theorem Rd.ofRw {w : World} {g k m c : Nat} {cs : List Value} {T : TypeId} (h : Rw w g cs T) (hk : cs.length = m * k) (hm : m ≤ c) (hc : c ≤ 9223372036854775807) : Rd w k (.slice (Option.some ⟨g, 0, none⟩) m c) m cs :=
  .inr ⟨_, c, rfl, hm, by unfold Go.maxLen; omega, by omega, fun j u hj => by rw [addr_add, Nat.zero_add, h.cell]; exact hj⟩
theorem Rw.shape {w : World} {g : Nat} {cs : List Value} {T : TypeId} (h : Rw w g cs T) : w.shape? g = some (T, cs.length) := by
  obtain ⟨cur, h1, h2⟩ := h
  rw [← h2]
  simp [World.shape?, h1]
theorem ins_take {cs xs new : List Value} {I J k N M : Nat} (hx : cs.take N = xs) (hI : I ≤ N) (hk : new.length = k) (hJ : J = I + k) (hN : N + k ≤ cs.length) (hM : M = N + k) :
    (((cs.take J ++ xs.drop I ++ cs.drop (J + (xs.drop I).length)).take I ++ new ++ (cs.take J ++ xs.drop I ++ cs.drop (J + (xs.drop I).length)).drop (I + new.length)).take M) = xs.take I ++ new ++ xs.drop I := by
  subst hJ hM
  have h1 : (cs.take (I + k) ++ xs.drop I ++ cs.drop (I + k + (xs.drop I).length)).take I = xs.take I := by
    rw [List.append_assoc, List.take_append_of_le_length (by rw [List.length_take]; omega), List.take_take, Nat.min_eq_left (by omega), ← hx, List.take_take, Nat.min_eq_left hI]
  have h2 : (cs.take (I + k) ++ xs.drop I ++ cs.drop (I + k + (xs.drop I).length)).drop (I + new.length) = xs.drop I ++ cs.drop (I + k + (xs.drop I).length) := by
    rw [List.append_assoc, hk]
    exact List.drop_left' (by rw [List.length_take]; omega)
  have hxl : xs.length = N := by rw [← hx, List.length_take]; omega
  rw [h1, h2, ← List.append_assoc]
  exact List.take_left' (by rw [List.length_append, List.length_append, List.length_take, List.length_drop]; omega)
theorem ins_grow {R xs new : List Value} {I J k N M : Nat} (hx : R.take I = xs.take I) (hxl : xs.length = N) (hI : I ≤ N) (hk : new.length = k) (hJ : J = I + k) (hM : M = N + k) :
    (((R.take I ++ new ++ R.drop (I + new.length)).take J ++ xs.drop I ++ (R.take I ++ new ++ R.drop (I + new.length)).drop (J + (xs.drop I).length)).take M) = xs.take I ++ new ++ xs.drop I := by
  subst hJ hM
  have h1 : (R.take I ++ new ++ R.drop (I + new.length)).take (I + k) = xs.take I ++ new := by
    rw [hx]
    exact List.take_left' (by rw [List.length_append, List.length_take]; omega)
  rw [h1]
  exact List.take_left' (by rw [List.length_append, List.length_append, List.length_take, List.length_drop]; omega)
theorem sets_len (cs vs : List Value) (o : Nat) (h : o + vs.length ≤ cs.length) : (cs.take o ++ vs ++ cs.drop (o + vs.length)).length = cs.length := by
  rw [List.length_append, List.length_append, List.length_take, List.length_drop]; omega
theorem Rw.new (w : World) (cs : Array Value) (T : TypeId) : Rw (w.alloc (.cells cs T)) w.heap.size cs.toList T := ⟨cs, heap_new w _, rfl⟩
theorem Kept.new_sets {w0 : World} {g : Nat} {M : Nat → Prop} (hg : w0.heap.size ≤ g) : ∀ (vs : List Value) (o : Nat) (w : World), Kept M w0 w → Kept M w0 (w.setCells g o vs)
  | [], _, _, h => h
  | _ :: r, o, w, h => by
    refine Kept.new_sets hg r (o + 1) _ ⟨h.os, h.tape, h.output, ?_, fun b hb hn => ?_⟩
    · rw [Go.Deep.nblk_setCell]; exact h.size
    · exact (Go.Deep.blk_setCell_other w _ _ b (by show b ≠ g; omega)).trans (h.block b hb hn)
end Go.Proofs.YtgfkgbampoocdaaGreatDoor
