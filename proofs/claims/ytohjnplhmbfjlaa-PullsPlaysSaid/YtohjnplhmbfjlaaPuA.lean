/- Who waits (chapter 18): how it lies; the closures; find. -/
import Derived.Test.YtohjnplhmbfjlaaPuSl
import Derived.Test.YtohjnplhmbfjlaaTail
namespace Go.Proofs.Ytohjnplhmbfjlaa
open Go.RowKit

abbrev TF : TypeId := 60
abbrev TQ : TypeId := 54
structure Ps where
  most : Int
  known : Int
  last : Int
  L : Nat → List Fl
  Z : Nat → Int
def pcells (s : Ps) (V : Nat → Value) : Array Value := #[.int .i64 s.most, .int .i64 s.known, .int .i64 s.last, V 0, .int .u64 (s.Z 0), V 1, .int .u64 (s.Z 1), V 2, .int .u64 (s.Z 2), V 3, .int .u64 (s.Z 3), V 4, .int .u64 (s.Z 4), V 5, .int .u64 (s.Z 5), V 6, .int .u64 (s.Z 6), V 7, .int .u64 (s.Z 7)]
def upd {α : Type} (f : Nat → α) (p : Nat) (x : α) : Nat → α := fun i => if i = p then x else f i
theorem upd_same {α : Type} (f : Nat → α) (p : Nat) (x : α) : upd f p x p = x := if_pos rfl
theorem upd_other {α : Type} (f : Nat → α) {p i : Nat} (x : α) (h : i ≠ p) : upd f p x i = f i := if_neg h
theorem eight {p : Nat} (h : p < 8) : p = 0 ∨ p = 1 ∨ p = 2 ∨ p = 3 ∨ p = 4 ∨ p = 5 ∨ p = 6 ∨ p = 7 := by omega
theorem p_get (s : Ps) (V : Nat → Value) {p : Nat} (h : p < 8) : (pcells s V)[3 + p * 2]? = some (V p) := by
  rcases eight h with rfl | rfl | rfl | rfl | rfl | rfl | rfl | rfl <;> rfl
theorem p_getZ (s : Ps) (V : Nat → Value) {p : Nat} (h : p < 8) : (pcells s V)[3 + p * 2 + 1]? = some (.int .u64 (s.Z p)) := by
  rcases eight h with rfl | rfl | rfl | rfl | rfl | rfl | rfl | rfl <;> rfl
theorem p_set (s : Ps) (V : Nat → Value) {p : Nat} (h : p < 8) (x : Value) (L' : Nat → List Fl) : (pcells s V).setIfInBounds (3 + p * 2) x = pcells { s with L := L' } (upd V p x) := by
  rcases eight h with rfl | rfl | rfl | rfl | rfl | rfl | rfl | rfl <;> rfl
theorem p_setZ (s : Ps) (V : Nat → Value) {p : Nat} (h : p < 8) (x : Int) : (pcells s V).setIfInBounds (3 + p * 2 + 1) (.int .u64 x) = pcells { s with Z := upd s.Z p x } V := by
  rcases eight h with rfl | rfl | rfl | rfl | rfl | rfl | rfl | rfl <;> rfl
/-- a queue at block b: its peers' rows at V -/
structure Pu (b B0 : Nat) (V : Nat → Value) (s : Ps) (w : World) : Prop where
  ob : Ob w b (pcells s V) TQ
  own : ∀ i, i < 8 → w.ownsRow B0 TF 3 (V i) (s.L i).length ((s.L i).flatMap Fl.row)
  apart : ∀ i j g, i < 8 → j < 8 → (V i).ownBlock = some g → (V j).ownBlock = some g → i = j
  off : ∀ i, i < 8 → (V i).ownBlock ≠ some b
  base : B0 ≤ b
def PM (b : Nat) (V : Nat → Value) : Nat → Prop := fun x => x = b ∨ ∃ i, i < 8 ∧ (V i).ownBlock = some x
variable {b B0 : Nat} {V : Nat → Value} {s : Ps} {w w' : World}
theorem Pu.kept {M : Nat → Prop} (h : Pu b B0 V s w) (hk : Kept M w w') (hM : ∀ x, PM b V x → ¬ M x) : Pu b B0 V s w' :=
  ⟨h.ob.kept hk (hM b (.inl rfl)), fun i hi => own_kept (h.own i hi) hk (fun x hx => hM x (.inr ⟨i, hi, hx⟩)), h.apart, h.off, h.base⟩
theorem Pu.keptF (h : Pu b B0 V s w) (hk : Kept (fun _ => False) w w') : Pu b B0 V s w' := h.kept hk fun _ _ hh => hh
theorem Pu.below (h : Pu b B0 V s w) (hk : Below w.heap.size w w') : Pu b B0 V s w' := h.keptF (Kept.of_below hk)
theorem own_lt {w : World} {B : Nat} {e : TypeId} {k : Nat} {v : Value} {n : Nat} {xs : List Value} (h : w.ownsRow B e k v n xs) : ∀ x, v.ownBlock = some x → B ≤ x ∧ x < w.heap.size := fun x hx => h.lt x hx
theorem Pu.lt (h : Pu b B0 V s w) : ∀ x, PM b V x → B0 ≤ x ∧ x < w.heap.size := by
  rintro x (rfl | ⟨i, hi, hx⟩)
  · exact ⟨h.base, h.ob.lt⟩
  · exact own_lt (h.own i hi) x hx
def PuPost (b B0 : Nat) (V : Nat → Value) (s' : Ps) (w w' : World) : Prop := ∃ V', Pu b B0 V' s' w' ∧ Kept (PM b V) w w' ∧ ∀ x, PM b V' x → PM b V x ∨ w.heap.size ≤ x
theorem PuPost.below {s' : Ps} (h : PuPost b B0 V s' w w') (hw : Pu b B0 V s w) : Below B0 w w' := by
  obtain ⟨V', h1, h2, _⟩ := h
  exact h2.belowAt (by have := hw.base; have := hw.ob.lt; omega) (fun x hx => (hw.lt x hx).1)
/-- one of the cells ahead of the peers is another one -/
theorem Pu.hd (h : Pu b B0 V s w) (i : Nat) (x : Value) {s' : Ps} (hc : (pcells s V).setIfInBounds i x = pcells s' V) (hL : s'.L = s.L) : Pu b B0 V s' (w.setCell ⟨b, i, none⟩ x) := by
  refine ⟨Ob.cast (h.ob.set i x) hc, fun j hj => ?_, h.apart, h.off, h.base⟩
  rw [hL]
  exact own_kept (h.own j hj) ((Kept.refl (Only b) w).setO) (fun y hy hh => h.off j hj (by rw [hy, show y = b from hh]))
/-- one peer's row is another one -/
theorem Pu.line (h : Pu b B0 V s w) {p : Nat} (hp : p < 8) {v' : Value} {l' : List Fl} (hk : Kept (fun x => (V p).ownBlock = some x) w w')
    (hown : w'.ownsRow B0 TF 3 v' l'.length (l'.flatMap Fl.row)) (hb : v'.ownBlock = (V p).ownBlock ∨ ∀ x, v'.ownBlock = some x → w.heap.size ≤ x) : Pu b B0 (upd V p v') { s with L := upd s.L p l' } (w'.setCell ⟨b, 3 + p * 2, none⟩ v') := by
  have hbl := h.ob.lt
  have hvb : v'.ownBlock ≠ some b := by
    rcases hb with hb | hb
    · rw [hb]; exact h.off p hp
    · intro he; have := hb b he; omega
  refine ⟨?_, fun i hi => ?_, fun i j g hi hj h1 h2 => ?_, fun i hi => ?_, h.base⟩
  · exact Ob.cast ((h.ob.kept hk (h.off p hp)).set _ _) (p_set s V hp v' _)
  · by_cases hip : i = p
    · subst hip
      show World.ownsRow _ _ _ _ (upd V i v' i) (upd s.L i l' i).length ((upd s.L i l' i).flatMap Fl.row)
      rw [upd_same, upd_same]
      exact ownsRow_setCell_other hown (a := ⟨b, 3 + i * 2, none⟩) hvb _
    · show World.ownsRow _ _ _ _ (upd V p v' i) (upd s.L p l' i).length ((upd s.L p l' i).flatMap Fl.row)
      rw [upd_other _ _ hip, upd_other _ _ hip]
      refine ownsRow_setCell_other (own_kept (h.own i hi) hk fun x hx hh => hip (h.apart i p x hi hp hx hh)) (a := ⟨b, 3 + p * 2, none⟩) (h.off i hi) _
  · have key : ∀ i, i < 8 → i ≠ p → (V i).ownBlock = some g → v'.ownBlock = some g → False := by
      intro i hi hip h1 h2
      rcases hb with hb | hb
      · rw [hb] at h2; exact hip (h.apart i p g hi hp h1 h2)
      · have h3 := hb g h2
        have h4 := ((h.own i hi).lt g h1).2
        omega
    by_cases hip : i = p
    · by_cases hjp : j = p
      · omega
      · subst hip
        rw [upd_same] at h1
        rw [upd_other _ _ hjp] at h2
        exact (key j hj hjp h2 h1).elim
    · by_cases hjp : j = p
      · subst hjp
        rw [upd_same] at h2
        rw [upd_other _ _ hip] at h1
        exact (key i hi hip h1 h2).elim
      · rw [upd_other _ _ hip] at h1
        rw [upd_other _ _ hjp] at h2
        exact h.apart i j g hi hj h1 h2
  · by_cases hip : i = p
    · subst hip; rw [upd_same]; exact hvb
    · rw [upd_other _ _ hip]; exact h.off i hi
/-- a cell of a row is another one -/
theorem own_setK {w : World} {B : Nat} {e : TypeId} {k g n cap : Nat} {xs : List Value} (h : w.ownsRow B e k (.slice (some ⟨g, 0, none⟩) n cap) n xs) (i : Nat) (u : Value) : (w.setCell ⟨g, i, none⟩ u).ownsRow B e k (.slice (some ⟨g, 0, none⟩) n cap) n (xs.set i u) := by
  refine ⟨by rw [List.length_set]; exact h.1, ?_⟩
  rcases h.2 with ⟨h2, _⟩ | ⟨g', cap', cur, hv, hb, hh, h3, h4, h5, h6⟩
  · cases h2
  · cases hv
    refine .inr ⟨g, cap, cur.setIfInBounds i u, rfl, hb, Ob.set hh i u, h3, h4, by rw [Array.size_setIfInBounds]; exact h5, ?_⟩
    rw [Array.toList_setIfInBounds, List.take_set, h6]
theorem row_set {x : Fl} {u : Value} : ∀ {l : List Fl} {i j : Nat} (hi : i < l.length), j < 3 → x.row = l[i].row.set j u → (l.flatMap Fl.row).set (i * 3 + j) u = (l.set i x).flatMap Fl.row
  | a :: l, 0, j, _, hj, hx => by
    show (a.row ++ l.flatMap Fl.row).set (0 * 3 + j) u = x.row ++ l.flatMap Fl.row
    have hx : x.row = a.row.set j u := hx
    rw [hx, Nat.zero_mul, Nat.zero_add, List.set_append_left _ _ (by rw [rowFl]; omega)]
  | a :: l, i + 1, j, hi, hj, hx => by
    show (a.row ++ l.flatMap Fl.row).set ((i + 1) * 3 + j) u = a.row ++ (l.set i x).flatMap Fl.row
    rw [List.set_append_right _ _ (by rw [rowFl]; omega), rowFl, show (i + 1) * 3 + j - 3 = i * 3 + j by omega]
    exact congrArg (a.row ++ ·) (row_set (by simpa using hi) hj hx)
theorem upd_self {α : Type} (f : Nat → α) (p : Nat) : upd f p (f p) = f := by
  funext i; unfold upd; split
  · rename_i h; rw [h]
  · rfl
theorem upd_upd {α : Type} (f : Nat → α) (p : Nat) (x y : α) : upd (upd f p x) p y = upd f p y := by
  funext i; unfold upd; split <;> rfl
/-- a flow is another one -/
theorem Pu.fl (h : Pu b B0 V s w) {p g c i j : Nat} (hp : p < 8) (hV : V p = .slice (some ⟨g, 0, none⟩) (s.L p).length c) (hi : i < (s.L p).length) (hj : j < 3) {x : Fl} {u : Value} (hx : x.row = (s.L p)[i].row.set j u) :
    Pu b B0 V { s with L := upd s.L p ((s.L p).set i x) } (w.setCell ⟨g, i * 3 + j, none⟩ u) := by
  have hgp : (V p).ownBlock = some g := by rw [hV]; rfl
  have hbg : b ≠ g := fun e => h.off p hp (by rw [hgp, e])
  refine ⟨h.ob.other _ _ hbg, fun q hq => ?_, h.apart, h.off, h.base⟩
  by_cases hqp : q = p
  · subst hqp
    show World.ownsRow _ _ _ _ (V q) (upd s.L q _ q).length ((upd s.L q _ q).flatMap Fl.row)
    rw [upd_same, List.length_set, ← row_set hi hj hx, hV]
    have h1 := h.own q hq
    rw [hV] at h1
    exact own_setK h1 _ _
  · show World.ownsRow _ _ _ _ (V q) (upd s.L p _ q).length ((upd s.L p _ q).flatMap Fl.row)
    rw [upd_other _ _ hqp]
    exact own_kept (h.own q hq) ((Kept.refl (Only g) w).setO) (fun y hy hh => hqp (h.apart q p g hq hp (by rw [hy, show y = g from hh]) hgp))
theorem isnan_u64 (x : Int) (w : World) : Calls Try.prog 34 #[.int .u64 x] w fun e w' => e = .returned (.bool false) ∧ w = w' := by
  go_enter Try.func34, Try.ntmps34
  go_wp2_with fail
  go_ret
  exact ⟨by simp, rfl⟩
theorem compare_u64 (a b : Int) (w : World) : Calls Try.prog 28 #[.int .u64 a, .int .u64 b] w fun e w' => e = .returned (.int .i64 (cmpI a b)) ∧ w = w' := by
  rcases (by omega : a < b ∨ (¬ a < b ∧ b < a) ∨ (¬ a < b ∧ ¬ b < a)) with h | ⟨h, h2⟩ | ⟨h, h2⟩
  · have e1 := Lib.hid (show cmpI a b = -1 from if_pos h)
    go_enter Try.func28, Try.ntmps28
    go_wp2_with (go_at_call 34; refine (isnan_u64 _ _).mono ?_; rintro e w' ⟨rfl, rfl⟩)
    go_ret
    exact ⟨by rw [e1.out]; rfl, rfl⟩
  · have e1 := Lib.hid (show cmpI a b = 1 by unfold cmpI; rw [if_neg h, if_pos h2])
    have hd : decide (a < b) = false := decide_eq_false h
    have hd2 : decide (b < a) = true := decide_eq_true h2
    go_enter Try.func28, Try.ntmps28
    go_wp2_with (go_at_call 34; refine (isnan_u64 _ _).mono ?_; rintro e w' ⟨rfl, rfl⟩)
    go_ret
    exact ⟨by rw [e1.out]; rfl, rfl⟩
  · have e1 := Lib.hid (show cmpI a b = 0 by unfold cmpI; rw [if_neg h, if_neg h2])
    have hd : decide (a < b) = false := decide_eq_false h
    have hd2 : decide (b < a) = false := decide_eq_false h2
    go_enter Try.func28, Try.ntmps28
    go_wp2_with (go_at_call 34; refine (isnan_u64 _ _).mono ?_; rintro e w' ⟨rfl, rfl⟩)
    go_ret
    exact ⟨by rw [e1.out]; rfl, rfl⟩
theorem find1_any (x : Fl) (id : Int) (W : World) : Calls Try.prog 27 (#[.agg #[.int .u64 x.id, .int .i64 x.wt, .int .i64 x.pl], .int .u64 id] ++ #[]) W fun e w' => e = .returned (.int .i64 (cmpI x.id id)) ∧ Below W.heap.size W w' := by
  show Calls Try.prog 27 #[.agg #[.int .u64 x.id, .int .i64 x.wt, .int .i64 x.pl], .int .u64 id] W _
  go_enter Try.func27, Try.ntmps27
  go_wp2_with fail
  refine (compare_u64 _ _ _).mono ?_
  rintro e w1 ⟨rfl, rfl⟩
  go_wp2_with fail
  go_ret
  exact ⟨rfl, (Below.refl _ _).alloc (Nat.le_refl _) _⟩
def Fnd (l : List Fl) (id : Int) (i : Nat) (f : Bool) : Prop := i ≤ l.length ∧ (∀ y ∈ l.take i, y.id < id) ∧ (∀ y ∈ l.drop i, id ≤ y.id) ∧ (f = true ↔ ∃ h : i < l.length, l[i].id = id)
theorem find_any (b B0 : Nat) (V : Nat → Value) (s : Ps) (p : Nat) (id : Int) (w : World) (h : Pu b B0 V s w) (hp : p < 8) (hs : (s.L p).Pairwise (fun x y => x.id < y.id)) (hl : (s.L p).length ≤ 1000000) :
    Calls Try.prog 20 #[.pointer (some ⟨b, 3 + p * 2, none⟩), .int .u64 id] w fun e w' => ∃ i f, e = .returned (.tuple #[.int .i64 (i : Nat), .bool f]) ∧ Fnd (s.L p) id i f ∧ Below w.heap.size w w' := by
  obtain ⟨lb, cb, fb⟩ := h.ob.blk
  have cv : w.cell? ⟨b, 3 + p * 2, none⟩ = some (V p) := by rw [cb, p_get _ _ hp]
  have HR := Lib.hid (Rd.of_own (h.own p hp))
  obtain ⟨a, c, hv, _, _⟩ := HR.out.form
  rw [hv] at cv HR
  have HS := Lib.hid hs
  clear cb h hv hs
  go_enter Try.func20, Try.ntmps20
  go_wp2_with fail
  refine (search_fl 27 #[] (.int .u64 id) (fun y => cmpI y.id id) (s.L p) _ _ (enters_of Try.func27 (by kernel_rfl) rfl) HR.out hl ?_ (fun W x _ => find1_any x id W)).mono ?_
  · intro i j hij hj hlt
    rw [cmpI_neg] at hlt ⊢
    rcases Nat.lt_or_ge i j with h | h
    · exact Int.lt_trans (List.pairwise_iff_getElem.1 HS.out i j _ hj h) hlt
    · obtain rfl : i = j := by omega
      exact hlt
  rintro e w1 ⟨hb1, i, f, rfl, hi, h1, h2, h3⟩
  have HF := Lib.hid (show Fnd (s.L p) id i f from ⟨hi, fun y hy => cmpI_neg.1 (h1 y hy), fun y hy => cmpI_nonneg.1 (h2 y hy), h3.trans ⟨fun ⟨x, y⟩ => ⟨x, cmpI_zero.1 y⟩, fun ⟨x, y⟩ => ⟨x, cmpI_zero.2 y⟩⟩⟩)
  have HB := Lib.hid hb1
  clear hi h1 h2 h3 hb1
  go_wp2_with fail
  go_ret2
  exact ⟨i, f, rfl, HF.out, HB.out⟩
end Go.Proofs.Ytohjnplhmbfjlaa
