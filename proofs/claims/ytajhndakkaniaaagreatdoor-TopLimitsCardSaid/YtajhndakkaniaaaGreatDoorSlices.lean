/- Rows written in place. General lemmas; no program in sight. -/
import Derived.Test.YtajhndakkaniaaaGreatDoorRun
import Derived.ArgAppend
import Derived.Lib.SliceRun
import Derived.Maps.AppendAt
import Derived.OneCell
namespace Go.Proofs.YtajhndakkaniaaaGreatDoor
open Go.RowKit

/-- block g holds a row of cap elements of k cells: these cells -/
def Rw (w : World) (g : Nat) (cs : List Value) (T : TypeId) : Prop := ∃ cur : Array Value, w.heap[g]? = some (.cells cur T (0, 0)) ∧ cur.toList = cs
theorem Rw.set {w : World} {g : Nat} {cs : List Value} {T : TypeId} (h : Rw w g cs T) (i : Nat) (v : Value) : Rw (w.setCell ⟨g, i, none⟩ v) g (cs.set i v) T := by
  obtain ⟨cur, h1, h2⟩ := h
  exact ⟨_, Ob.set h1 i v, by rw [← h2]; simp⟩
theorem Rw.sets {g : Nat} {T : TypeId} : ∀ (vs : List Value) (o : Nat) (w : World) (cs : List Value), Rw w g cs T → o + vs.length ≤ cs.length → Rw (w.setCells g o vs) g (cs.take o ++ vs ++ cs.drop (o + vs.length)) T
  | [], o, w, cs, h, _ => by unfold World.setCells; simpa using h
  | v :: r, o, w, cs, h, hl => by
    simp only [List.length_cons] at hl
    have h2 := Rw.sets r (o + 1) _ _ (h.set o v) (by rw [List.length_set]; omega)
    unfold World.setCells
    have e : (cs.set o v).take (o + 1) ++ r ++ (cs.set o v).drop (o + 1 + r.length) = cs.take o ++ (v :: r) ++ cs.drop (o + (v :: r).length) := by
      rw [List.take_succ_eq_append_getElem (by rw [List.length_set]; omega), List.take_set_of_le (Nat.le_refl o), List.drop_set_of_lt (by omega)]
      simp [List.length_cons]
      congr 1; omega
    rw [e] at h2
    exact h2
theorem Kept.sets {g : Nat} {w0 : World} : ∀ (vs : List Value) (o : Nat) (w : World), Kept (Only g) w0 w → Kept (Only g) w0 (w.setCells g o vs)
  | [], _, _, h => h
  | _ :: r, o, _, h => Kept.sets r (o + 1) _ h.setO
theorem Rw.cell {w : World} {g : Nat} {cs : List Value} {T : TypeId} (h : Rw w g cs T) (i : Nat) : w.cell? ⟨g, i, none⟩ = cs[i]? := by
  obtain ⟨cur, h1, h2⟩ := h
  rw [← h2]
  simp [World.cell?, h1]
theorem Rw.free {w : World} {g : Nat} {cs : List Value} {T : TypeId} (h : Rw w g cs T) (i : Nat) : w.frozen? ⟨g, i, none⟩ = false := by
  obtain ⟨cur, h1, h2⟩ := h
  exact free_of_heap h1 i
theorem Rw.lt {w : World} {g : Nat} {cs : List Value} {T : TypeId} (h : Rw w g cs T) : g < w.heap.size := by
  obtain ⟨cur, h1, _⟩ := h
  exact heap_lt h1
theorem Rw.kept {M : Nat → Prop} {w w' : World} {g : Nat} {cs : List Value} {T : TypeId} (h : Rw w g cs T) (hk : Kept M w w') (hm : ¬ M g) : Rw w' g cs T := by
  obtain ⟨cur, h1, h2⟩ := h
  exact ⟨cur, hk.heap h1 hm, h2⟩
theorem Rw.drew {w : World} {g : Nat} {cs : List Value} {T : TypeId} (h : Rw w g cs T) : Rw w.drew g cs T := h
/-- a row of the call's own that is not nil -/
theorem own_row {w : World} {B : Nat} {e : TypeId} {k : Nat} {g n cap : Nat} {xs : List Value} (h : w.ownsRow B e k (.slice (some ⟨g, 0, none⟩) n cap) n xs) :
    B ≤ g ∧ n ≤ cap ∧ cap ≤ 9223372036854775807 ∧ xs.length = n * k ∧ ∃ cs, Rw w g cs e ∧ cs.length = cap * k ∧ cs.take (n * k) = xs := by
  obtain ⟨h0, h1⟩ := h
  rcases h1 with ⟨h1, _⟩ | ⟨g', cap', cur, h1, h2, h3, h4, h5, h6, h7⟩
  · cases h1
  · cases h1
    exact ⟨h2, h4, by unfold Go.maxLen at h5; omega, h0, _, ⟨cur, h3, rfl⟩, by simpa using h6, h7⟩
theorem row_own {w : World} {B : Nat} {e : TypeId} {k : Nat} {g n cap : Nat} {xs cs : List Value} (hB : B ≤ g) (h1 : n ≤ cap) (h2 : cap ≤ 9223372036854775807) (hr : Rw w g cs e) (hl : cs.length = cap * k) (hx : cs.take (n * k) = xs) :
    w.ownsRow B e k (.slice (some ⟨g, 0, none⟩) n cap) n xs := by
  obtain ⟨cur, h3, h4⟩ := hr
  refine ⟨?_, .inr ⟨g, cap, cur, rfl, hB, h3, h1, by unfold Go.maxLen; omega, by rw [← hl, ← h4]; simp, by rw [h4]; exact hx⟩⟩
  rw [← hx, List.length_take, hl]
  exact Nat.min_eq_left (Nat.mul_le_mul_right _ h1)

theorem zeroCells_len (z : Array Value) (n : Nat) : (Builtin.zeroCells z n).toList.length = n * z.size := by simp [Builtin.zeroCells]
theorem zeroCells_one (z : Array Value) (h : ∀ u ∈ z.toList, u.oneCell' = true) (n : Nat) : ∀ u ∈ (Builtin.zeroCells z n).toList, u.oneCell' = true := by
  intro u hu
  simp only [Builtin.zeroCells, Array.toList_map, List.mem_map, Array.toList_range, List.mem_range] at hu
  obtain ⟨i, hi, rfl⟩ := hu
  have hz : 0 < z.size := by rcases Nat.eq_zero_or_pos z.size with h0 | h0; · simp [h0] at hi
                             · exact h0
  have hm := Nat.mod_lt i hz
  refine h _ ?_
  rw [getElem!_pos z _ hm]
  simp
/-- 'clear' of a part of a row -/
theorem run_clear {P : Program} {w : World} {t e ty : TypeId} {z : Value} (ht : P.underlying t = some (.slice e)) (hv : ∀ w, (zeroValue e).run P w = .ok z w) (h1 : ∀ u ∈ z.cells.toList, u.oneCell' = true) {g o n c : Nat} (hn : 0 < n) {cs : List Value} (hr : Rw w g cs e) (hl : o + n * z.cells.size ≤ cs.length) :
    (Builtin.clear_ #[t] ty #[.slice (some ⟨g, o, none⟩) n c]).run P w = .ok (.tuple #[]) (w.setCells g o (Builtin.zeroCells z.cells n).toList) := by
  have hc : ∀ j, j < (Builtin.zeroCells z.cells n).toList.length → (w.cell? ⟨g, o + 0 + j, none⟩).isSome = true := by
    intro j hj
    rw [zeroCells_len] at hj
    rw [hr.cell, List.getElem?_eq_getElem (by omega)]; rfl
  have hf : ∀ j, j < (Builtin.zeroCells z.cells n).toList.length → w.frozen? ⟨g, o + 0 + j, none⟩ = false := fun j _ => hr.free _
  have hst := run_storeCells_cells (P := P) g o (Builtin.zeroCells z.cells n).toList 0 w hc hf (zeroCells_one _ h1 n)
  rw [Nat.add_zero] at hst
  obtain ⟨n, rfl⟩ : ∃ m, n = m + 1 := ⟨n - 1, by omega⟩
  simp [Builtin.clear_, run_underlying ht, hv, hst]
/-- 'append' within the capacity, as one operation -/
theorem wp_app_room {P : Program} {o : Oper} {a : Act} {w : World} {K : Act → World → Prop} {Q : Exit → Act → World → Prop} (s x : Operand) (t : TypeId)
    (hop : o.op = Op.call { callee := Callee.builtin Builtin.append, args := #[s, x], argTypes := #[t, t] })
    {e : TypeId} {z : Value} {size bytes : Nat} (hinfo : (P.info? e).map (fun i => (i.zero, i.size, i.bytes)) = some (some z, size, bytes)) (h1 : P.underlying t = some (.slice e))
    {b off n cap : Nat} (hs : a.eval s = .slice (some ⟨b, off, none⟩) n cap)
    {ad : Addr} {m c : Nat} {news : List Value} (hx : a.eval x = .slice (some ad) m c) (hn : news.length = m * size) (hc : ∀ j u, news[j]? = some u → w.cell? (ad.add j) = some u) (h1c : ∀ u ∈ news, u.oneCell' = true)
    (hroom : n + m ≤ cap) (hspare : ∀ j, j < news.length → (w.cell? ⟨b, off + n * size + j, none⟩).isSome = true ∧ w.frozen? ⟨b, off + n * size + j, none⟩ = false)
    (hK : K (a.put o.dst (.slice (some ⟨b, off, none⟩) (n + m) cap)) (w.setCells b (off + n * size) news)) : Oper.wp P o a w K Q := by
  obtain ⟨i, h2, _, h4, _⟩ := info_parts hinfo
  subst h4
  have hrun := run_append_room_cells (P := P) w t o.type e i h1 h2 b off n cap ad m c news hn hc h1c hroom (fun j hj => (hspare j hj).1) (fun j hj => (hspare j hj).2)
  unfold Oper.wp
  simp [execOp, hop, resolve, invoke, builtin, hs, hx, hrun, Result.andThen]
  exact hK
theorem del_take (A N C Z : List Value) (o m x : Nat) (h : A.length + N.length = o) (hx : x = o) : ((A ++ N ++ C).take o ++ Z ++ (A ++ N ++ C).drop m).take x = A ++ N := by
  subst hx
  have h1 : (A ++ N ++ C).take x = A ++ N := by rw [List.take_append_of_le_length (by rw [List.length_append]; omega), List.take_of_length_le (by rw [List.length_append]; omega)]
  rw [h1, List.append_assoc, List.take_append_of_le_length (by rw [List.length_append]; omega), List.take_of_length_le (by rw [List.length_append]; omega)]
theorem del_len (A Z : List Value) (o : Nat) (h : o + Z.length ≤ A.length) : (A.take o ++ Z ++ A.drop (o + Z.length)).length = A.length := by
  rw [List.length_append, List.length_append, List.length_take, List.length_drop]; omega

/-- append to a row of the call's own, and where the new one lies -/
theorem wp_appAt {P : Program} {o : Oper} {a : Act} {w : World} {K : Act → World → Prop} {Q : Exit → Act → World → Prop} (s x : Operand) (t : TypeId)
    (ho : o.op = .call { callee := .builtin .append, args := #[s, x], argTypes := #[t, t] }) {e : TypeId} {z : Value} {size bytes : Nat}
    (hinfo : (P.info? e).map (fun i => (i.zero, i.size, i.bytes)) = some (some z, size, bytes)) (ht : P.underlying t = some (.slice e))
    (hzs : z.cells.size = size) (hsz : 0 < size ∧ 0 < bytes) {base : Nat} {v : Value} {n : Nat} {xs : List Value} (hown : w.ownsRow base e size v n xs)
    {y : Value} {m : Nat} {news : List Value} (hsrc : Rd w size y m news) (hs : a.eval s = v) (hx : a.eval x = y) (h1 : ∀ u ∈ news, u.oneCell' = true) (hn : (n + m) * bytes ≤ 140737488355328) (hbase : base ≤ w.heap.size)
    (h : ∀ v' w', w'.ownsRow base e size v' (n + m) (xs ++ news) → w.grownBy w' v.ownBlock → (v'.ownBlock = v.ownBlock ∨ v'.ownBlock = some w.heap.size) → K (a.put o.dst v') w') : o.wp P a w K Q := by
  obtain ⟨i, hi, h2, h3, h4⟩ := info_parts hinfo
  have hn2 : n + m ≤ maxLen := by
    have h5 : (n + m) * 1 ≤ (n + m) * bytes := Nat.mul_le_mul_left _ hsz.2
    unfold maxLen; omega
  rcases hsrc with ⟨rfl, rfl, rfl⟩ | ⟨b, cap, rfl, k1, k2, k3, k4⟩
  · have hrun := run_append_owned_none (P := P) (w := w) base t o.type e i size ht hi v n xs hown
    unfold Oper.wp
    simp [execOp, ho, resolve, invoke, builtin, hs, hx, hrun, Result.andThen]
    exact h v w (by simpa using hown) ⟨rfl, rfl, rfl, Nat.le_refl _, fun _ _ _ => rfl⟩ (.inl rfl)
  · obtain ⟨v', w', hr, h6, h7, _, h8⟩ := run_append_own_at (P := P) w base t o.type e i z size bytes ht hi h2 h3 h4 hzs hsz.1 v n xs hown b m cap news k3 k4 h1 hn2 hn hbase
    unfold Oper.wp execOp
    simp only [ho, resolve, invoke, builtin, Sem.run_bind, Sem.run_pure, Result.andThen_ok, List.map_toArray, List.map_cons, List.map_nil, hs, hx, hr]
    exact h v' w' h6 h7 h8
theorem Rd.one (w : World) (cs : Array Value) (T : TypeId) {k : Nat} (hk : cs.size = k) : Rd (w.alloc (.cells cs T)) k (.slice (Option.some ⟨w.heap.size, 0, none⟩) 1 1) 1 cs.toList :=
  .inr ⟨_, 1, rfl, Nat.le_refl _, by unfold Go.maxLen; omega, by simp [hk], fun j u hj => by rw [addr_add]; exact cell_of_heap (heap_new w _) (by simpa using hj)⟩
theorem own_kept {M : Nat → Prop} {w w' : World} {B : Nat} {e : TypeId} {size : Nat} {v : Value} {n : Nat} {xs : List Value} (h : w.ownsRow B e size v n xs) (hk : Kept M w w') (hM : ∀ x, v.ownBlock = some x → ¬ M x) : w'.ownsRow B e size v n xs := by
  refine ⟨h.1, ?_⟩
  rcases h.2 with h2 | ⟨g, cap, cur, hv, hg, hh, r⟩
  · exact .inl h2
  · exact .inr ⟨g, cap, cur, hv, hg, hk.heap hh (hM g (by rw [hv]; rfl)), r⟩
theorem flat_take {α : Type} {f : α → List Value} {k : Nat} (hf : ∀ x, (f x).length = k) : ∀ (l : List α) (j : Nat), (l.flatMap f).take (j * k) = (l.take j).flatMap f
  | [], j => by simp
  | x :: l, 0 => by simp
  | x :: l, j + 1 => by
    rw [List.flatMap_cons, List.take_succ_cons, List.flatMap_cons, ← flat_take hf l j, Nat.succ_mul, List.take_append, hf, List.take_of_length_le (by rw [hf]; omega)]
    congr 2; omega
theorem flat_drop {α : Type} {f : α → List Value} {k : Nat} (hf : ∀ x, (f x).length = k) : ∀ (l : List α) (j : Nat), (l.flatMap f).drop (j * k) = (l.drop j).flatMap f
  | [], j => by simp
  | x :: l, 0 => by simp
  | x :: l, j + 1 => by
    rw [List.flatMap_cons, List.drop_succ_cons, ← flat_drop hf l j, Nat.succ_mul, List.drop_append, hf, List.drop_of_length_le (by rw [hf]; omega), List.nil_append]
    congr 1; omega
end Go.Proofs.YtajhndakkaniaaaGreatDoor
