/- A wheel (chapter 2): its state, and how it lies. No walk. -/
import Derived.Test.YtlibnjhoggfhfaaWheelC
namespace Go.Proofs.Ytlibnjhoggfhfaa
open Go.RowKit

structure Wl where
  most : Int
  now : Int
  last : Int
  l : List Du
/-- the wheel at block b: what waits at V -/
structure Wh (TW TD : TypeId) (b B0 : Nat) (V : Value) (s : Wl) (w : World) : Prop where
  ob : Ob w b #[.int .i64 s.most, .int .i64 s.now, .int .i64 s.last, V] TW
  own : w.ownsRow B0 TD 3 V s.l.length (s.l.flatMap Du.row)
  ne : V.ownBlock ≠ some b
  bb : B0 ≤ b
def WM (b : Nat) (V : Value) : Nat → Prop := fun x => x = b ∨ V.ownBlock = some x
theorem own_lt {w : World} {B : Nat} {e : TypeId} {k : Nat} {v : Value} {n : Nat} {xs : List Value} (h : w.ownsRow B e k v n xs) : ∀ x, v.ownBlock = some x → B ≤ x ∧ x < w.heap.size := by
  intro x hx
  rcases h.2 with ⟨rfl, _⟩ | ⟨g, cap, cur, rfl, h1, h2, _⟩
  · cases hx
  · cases hx; exact ⟨h1, heap_lt h2⟩
theorem own_base {w : World} {B B' : Nat} {e : TypeId} {k : Nat} {v : Value} {n : Nat} {xs : List Value} (h : w.ownsRow B e k v n xs) (hB : B' ≤ B) : w.ownsRow B' e k v n xs := by
  refine ⟨h.1, ?_⟩
  rcases h.2 with h2 | ⟨g, cap, cur, hv, hg, r⟩
  · exact .inl h2
  · exact .inr ⟨g, cap, cur, hv, Nat.le_trans hB hg, r⟩
variable {TW TD : TypeId} {b B0 : Nat} {V : Value} {s : Wl} {w w' : World}
theorem Wh.base {B' : Nat} (h : Wh TW TD b B0 V s w) (hB : B' ≤ B0) : Wh TW TD b B' V s w := ⟨h.ob, own_base h.own hB, h.ne, Nat.le_trans hB h.bb⟩
theorem Wh.kept {M : Nat → Prop} (h : Wh TW TD b B0 V s w) (hk : Kept M w w') (hM : ∀ x, WM b V x → ¬ M x) : Wh TW TD b B0 V s w' :=
  ⟨h.ob.kept hk (hM b (.inl rfl)), own_kept h.own hk fun x hx => hM x (.inr hx), h.ne, h.bb⟩
theorem Wh.lt (h : Wh TW TD b B0 V s w) : ∀ x, WM b V x → B0 ≤ x ∧ x < w.heap.size := by
  rintro x (rfl | hx)
  · exact ⟨h.bb, h.ob.lt⟩
  · exact own_lt h.own x hx
theorem Wh.keptF (h : Wh TW TD b B0 V s w) (hk : Kept (fun _ => False) w w') : Wh TW TD b B0 V s w' := h.kept hk fun _ _ hh => hh
theorem Wh.below (h : Wh TW TD b B0 V s w) (hb : Below w.heap.size w w') : Wh TW TD b B0 V s w' := h.keptF (Kept.of_below hb)
theorem Wh.drew (h : Wh TW TD b B0 V s w) : Wh TW TD b B0 V s w.drew := h.keptF (Kept.drew _ _)
theorem Wh.dn {n : Nat} (h : Wh TW TD b B0 V s w) : Wh TW TD b B0 V s (w.drewN n) := h.keptF (Kept.dn _ _ n)
theorem Wh.alloc (h : Wh TW TD b B0 V s w) (o : Obj) : Wh TW TD b B0 V s (w.alloc o) := h.keptF ((Kept.refl (fun _ => False) w).alloc o)
/-- what a call that changes it leaves -/
def WhPost (TW TD : TypeId) (b B0 : Nat) (V : Value) (s' : Wl) (w w' : World) : Prop :=
  ∃ V', Wh TW TD b B0 V' s' w' ∧ Kept (WM b V) w w' ∧ ∀ x, WM b V' x → WM b V x ∨ w.heap.size ≤ x
theorem WhPost.same (h : Wh TW TD b B0 V s w) (hk : Kept (fun _ => False) w w') : WhPost TW TD b B0 V s w w' :=
  ⟨V, h.keptF hk, hk.mono fun _ _ hh => hh.elim, fun _ hx => .inl hx⟩
/-- what the wheel stores anew -/
theorem wh_store {V' : Value} {n : Nat} {xs : List Value} {s' : Wl} {w1 : World} (h : Wh TW TD b B0 V s w) (hk : Kept (WM b V) w w1) (hob : Ob w1 b #[.int .i64 s'.most, .int .i64 s'.now, .int .i64 s'.last, V] TW) (ho : w1.ownsRow B0 TD 3 V' n xs)
    (hb : V'.ownBlock = V.ownBlock ∨ ∀ x, V'.ownBlock = some x → w.heap.size ≤ x) (hx : xs = s'.l.flatMap Du.row) (hn : n = s'.l.length) : WhPost TW TD b B0 V s' w (w1.setCell ⟨b, 3, none⟩ V') := by
  have hne : V'.ownBlock ≠ some b := by
    rcases hb with hb | hb
    · rw [hb]; exact h.ne
    · intro hh; have := hb b hh; have := h.ob.lt; omega
  subst hx hn
  refine ⟨V', ⟨Ob.cast (hob.set 3 V') rfl, own_kept ho ((Kept.refl (Only b) w1).setO) (fun y hy hh => hne (by rw [hy, show y = b from hh])), hne, h.bb⟩, hk.set _ _ (fun _ => .inl rfl), fun x hx => ?_⟩
  rcases hx with rfl | hx
  · exact .inl (.inl rfl)
  · rcases hb with hb | hb
    · exact .inl (.inr (by rw [← hb]; exact hx))
    · exact .inr (hb x hx)
/-- the same, and no new block is held -/
def WhPostS (TW TD : TypeId) (b B0 : Nat) (V : Value) (s' : Wl) (w w' : World) : Prop :=
  ∃ V', Wh TW TD b B0 V' s' w' ∧ Kept (WM b V) w w' ∧ ∀ x, WM b V' x → WM b V x
theorem WhPostS.weak {s' : Wl} (h : WhPostS TW TD b B0 V s' w w') : WhPost TW TD b B0 V s' w w' := by
  obtain ⟨V', h1, h2, h3⟩ := h
  exact ⟨V', h1, h2, fun x hx => .inl (h3 x hx)⟩
theorem wh_storeS {V' : Value} {n : Nat} {xs : List Value} {s' : Wl} {w1 : World} (h : Wh TW TD b B0 V s w) (hk : Kept (WM b V) w w1) (hob : Ob w1 b #[.int .i64 s'.most, .int .i64 s'.now, .int .i64 s'.last, V] TW) (ho : w1.ownsRow B0 TD 3 V' n xs)
    (hb : V'.ownBlock = V.ownBlock) (hx : xs = s'.l.flatMap Du.row) (hn : n = s'.l.length) : WhPostS TW TD b B0 V s' w (w1.setCell ⟨b, 3, none⟩ V') := by
  have hne : V'.ownBlock ≠ some b := by rw [hb]; exact h.ne
  subst hx hn
  refine ⟨V', ⟨Ob.cast (hob.set 3 V') rfl, own_kept ho ((Kept.refl (Only b) w1).setO) (fun y hy hh => hne (by rw [hy, show y = b from hh])), hne, h.bb⟩, hk.set _ _ (fun _ => .inl rfl), fun x hx => ?_⟩
  rcases hx with rfl | hx
  · exact .inl rfl
  · exact .inr (by rw [← hb]; exact hx)
/-- what may be -/
structure Wl.ok (s : Wl) : Prop where
  a0 : 1 ≤ s.most
  a1 : s.most ≤ 100000
  n0 : 0 ≤ s.now
  n1 : s.now ≤ 1125899906842624
  t0 : 0 ≤ s.last
  t1 : s.last ≤ 1000000000
  up : s.l.Pairwise Du.lt
  ids : ∀ x ∈ s.l, 1 ≤ x.id ∧ x.id ≤ s.last
  ats : ∀ x ∈ s.l, s.now ≤ x.at' ∨ 0 ≤ x.at'
  one : ∀ x ∈ s.l, x.v.oneCell' = true
  ln : (s.l.length : Int) ≤ s.most
theorem lt_trans {x y z : Du} (h1 : x.lt y) (h2 : y.lt z) : x.lt z := by
  unfold Du.lt at *; omega
theorem countP_split {α : Type} (p : α → Bool) {l : List α} {k : Nat} (hk : k ≤ l.length) (h1 : ∀ x ∈ l.take k, p x = true) (h2 : ∀ x ∈ l.drop k, p x = false) : l.countP p = k := by
  rw [← List.take_append_drop k l, List.countP_append, List.countP_eq_length.2 h1, List.length_take, Nat.min_eq_left hk, List.countP_eq_zero.2 (fun x hx => by rw [h2 x hx]; decide), Nat.add_zero]
def Wl.pos (s : Wl) (d : Du) : Nat := s.l.countP (fun y => decide (y.cmp d < 0))
/-- one more waits -/
def Wl.plus (s : Wl) (at' : Int) (v : Value) : Wl := ⟨s.most, s.now, s.last + 1, s.l.take (s.pos ⟨max at' s.now, s.last + 1, v⟩) ++ [⟨max at' s.now, s.last + 1, v⟩] ++ s.l.drop (s.pos ⟨max at' s.now, s.last + 1, v⟩)⟩
theorem mono_cmp {l : List Du} (hs : l.Pairwise Du.lt) (d : Du) (i j : Nat) (hij : i ≤ j) (hj : j < l.length) (h : l[j].cmp d < 0) : (l[i]'(Nat.lt_of_le_of_lt hij hj)).cmp d < 0 := by
  rcases Nat.lt_or_eq_of_le hij with h1 | rfl
  · rw [cmp_lt] at h ⊢
    exact lt_trans (List.pairwise_iff_getElem.1 hs i j (by omega) hj h1) h
  · exact h
theorem flat_ins (l : List Du) (i : Nat) (d : Du) : (l.flatMap Du.row).take (i * 3) ++ d.row ++ (l.flatMap Du.row).drop (i * 3) = (l.take i ++ [d] ++ l.drop i).flatMap Du.row := by
  rw [flat_take rowDu, flat_drop rowDu, List.flatMap_append, List.flatMap_append]
  simp [Du.row]
theorem rd_tokD {w : World} {l : List Du} {a : Option Addr} {c : Nat} (h : Rd w 3 (.slice a l.length c) l.length (l.flatMap Du.row)) (k : Nat) (hk : k ≤ l.length) : Rd w 3 (.slice a k c) k ((l.take k).flatMap Du.row) := by
  rcases h with ⟨h1, h2, h3⟩ | ⟨b, cap, h1, h2, h3, h4, h5⟩
  · obtain rfl : k = 0 := by omega
    injection h1 with h6 h7 h8
    subst h6 h8
    exact .inl ⟨rfl, rfl, rfl⟩
  · injection h1 with h6 _ h8
    subst h6 h8
    refine .inr ⟨b, c, rfl, Nat.le_trans hk h2, h3, by rw [flat_len rowDu, List.length_take, Nat.min_eq_left hk], fun j u hj => h5 j u ?_⟩
    rw [← flat_take rowDu, List.getElem?_take] at hj
    split at hj
    · exact hj
    · cases hj
theorem insd_len {l : List Du} {i : Nat} (h : i ≤ l.length) (d : Du) : (l.take i ++ [d] ++ l.drop i).length = l.length + 1 := by
  rw [List.length_append, List.length_append, List.length_take, List.length_drop, List.length_singleton]; omega
end Go.Proofs.Ytlibnjhoggfhfaa
