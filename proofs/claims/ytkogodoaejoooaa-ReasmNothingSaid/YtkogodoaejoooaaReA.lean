/- A message that comes in pieces (chapter 7): how it lies; what is made; two rows of bytes held against each other. -/
import Derived.Test.YtkogodoaejoooaaReSl
import Derived.Test.YtkogodoaejoooaaIvG
namespace Go.Proofs.Ytkogodoaejoooaa
open Go.RowKit

abbrev TU : TypeId := 5
abbrev TBf : TypeId := 45
theorem IvPost.below {b B0 B : Nat} {V : Value} {s s' : Is} {w w' : World} (h : IvPost b B0 V s' w w') (hw : Iv b B0 V s w) (hB : B ≤ B0) : Below B w w' := by
  obtain ⟨V', h1, h2, h3⟩ := h
  exact h2.belowAt (by have := hw.bb; have := hw.ob.lt; omega) (fun x hx => Nat.le_trans hB (hw.lt x hx).1)
theorem new_ok {t : Int} (h0 : 0 ≤ t) (h1 : t ≤ 1073741824) : (⟨t, []⟩ : Is).ok := ⟨h0, h1, trivial⟩
theorem Rd.part {w : World} {l : List UInt8} {a : Option Addr} {cap : Nat} (h : Rd w 1 (.slice a l.length cap) l.length (bcells l)) (i m : Nat) (hi : i ≤ m) (hm : m ≤ l.length) :
    Rd w 1 (.slice (slAddr a cap i 1) (m - i) (cap - i)) ((l.drop i).take (m - i)).length (bcells ((l.drop i).take (m - i))) := by
  have := h.sub i m hi hm
  rw [bcells_sub] at this
  rw [show ((l.drop i).take (m - i)).length = m - i by rw [List.length_take, List.length_drop]; omega]
  exact this
/-- the message at block b: its bytes at g, what came in the set at S -/
structure Bf (b B g S : Nat) (V : Value) (l : List UInt8) (s : Is) (w : World) : Prop where
  ob : Ob w b #[.slice (some ⟨g, 0, none⟩) l.length l.length, .pointer (some ⟨S, 0, none⟩)] TBf
  row : w.ownsRow B TU 1 (.slice (some ⟨g, 0, none⟩) l.length l.length) l.length (bcells l)
  set : Iv S B V s w
  d1 : b ≠ g
  d2 : ¬ WM S V b
  d3 : ¬ WM S V g
  bb : B ≤ b
def BM (g S : Nat) (V : Value) : Nat → Prop := fun x => x = g ∨ WM S V x
variable {b B g S : Nat} {V : Value} {l : List UInt8} {s : Is} {w w' : World}
theorem Bf.kept {M : Nat → Prop} (h : Bf b B g S V l s w) (hk : Kept M w w') (hb : ¬ M b) (hM : ∀ x, BM g S V x → ¬ M x) : Bf b B g S V l s w' :=
  ⟨h.ob.kept hk hb, own_kept h.row hk (fun x hx => hM x (.inl (by cases hx; rfl))), h.set.kept hk (fun x hx => hM x (.inr hx)), h.d1, h.d2, h.d3, h.bb⟩
theorem Bf.keptF (h : Bf b B g S V l s w) (hk : Kept (fun _ => False) w w') : Bf b B g S V l s w' := h.kept hk id (fun _ _ hh => hh)
theorem Bf.below (h : Bf b B g S V l s w) (hb : Below w.heap.size w w') : Bf b B g S V l s w' := h.keptF (Kept.of_below hb)
theorem Bf.lt (h : Bf b B g S V l s w) : ∀ x, BM g S V x → B ≤ x ∧ x < w.heap.size := by
  rintro x (rfl | hx)
  · exact own_lt h.row x rfl
  · exact h.set.lt x hx
/-- what a call that changes it leaves -/
def BfPost (b B g S : Nat) (V : Value) (l' : List UInt8) (s' : Is) (w w' : World) : Prop :=
  ∃ V', Bf b B g S V' l' s' w' ∧ Kept (BM g S V) w w' ∧ ∀ x, BM g S V' x → BM g S V x ∨ w.heap.size ≤ x
theorem BfPost.below {l' : List UInt8} {s' : Is} (h : BfPost b B g S V l' s' w w') (hw : Bf b B g S V l s w) : Below B w w' := by
  obtain ⟨V', h1, h2, _⟩ := h
  exact h2.belowAt (by have := hw.bb; have := hw.ob.lt; omega) (fun x hx => (hw.lt x hx).1)
theorem equal_by (l m : List UInt8) (u v : Value) (w : World) (h : Rd w 1 u l.length (bcells l)) (h' : Rd w 1 v m.length (bcells m)) : Calls Try.prog 17 #[u, v] w fun e w' => e = .returned (.bool (decide (l = m))) ∧ w = w' := by
  have HA := Lib.hid h
  have HB := Lib.hid h'
  clear h h'
  go_enter Try.func17, Try.ntmps17
  go_wp2_with (first
    | (refine wpList_str rfl 22 9 (.tmp 5) rfl Try.underlying22 Try.underlying5 Try.underlying9 HA.out rfl ?_)
    | (refine wpList_str rfl 22 9 (.tmp 7) rfl Try.underlying22 Try.underlying5 Try.underlying9 HB.out rfl ?_))
  go_ret
  refine ⟨ret_bool ?_, rfl⟩
  by_cases hh : l = m
  · subst hh; simp
  · rw [decide_eq_false hh, beq_eq_false_iff_ne]; exact hh
theorem made_u8 (n : Nat) : (madeCells #[Value.int .u8 0] n).toList = bcells (List.replicate n 0) := by
  simp [madeCells, Nat.mod_one, bcells, List.map_replicate, List.map_const']
set_option maxRecDepth 100000 in
theorem new_bf (n : Nat) (most : Int) (w : World) (h1 : (n : Int) ≤ most) (h2 : most ≤ 1073741824) : Calls Try.prog 7 #[.int .i64 n, .int .i64 most] w fun e w' => ∃ b g S, e = .returned (.tuple #[.pointer (some ⟨b, 0, none⟩), .int .i64 0]) ∧ Bf b w.heap.size g S (.slice none 0 0) (List.replicate n 0) ⟨n, []⟩ w' ∧ Below w.heap.size w w' := by
  go_enter Try.func7, Try.ntmps7
  go_wp2_with fail
  refine (new_iv n w ⟨by omega, by omega⟩).mono ?_
  rintro e w1 ⟨rfl, hw, hb⟩
  have HW := Lib.hid hw
  have HB := Lib.hid hb
  have s1 := hb.size
  have l1 := hw.ob.lt
  clear hw hb
  obtain ⟨i0, hi0, hz0, hs0, hb0⟩ := info_parts info_u8
  go_wp2_with (refine wpList_make_row _ rfl (.tmp 32) (.tmp 32) _ rfl TU i0 (.int .u8 0) (by rfl) hi0 hz0 hs0 rfl .i64 .i64 n rfl rfl (by rw [hb0]; omega) (by omega) ?_)
  have HA := Lib.hid ((Below.refl w1.heap.size w1).alloc (Nat.le_refl _) (.cells (madeCells #[Value.int .u8 0] n) TU))
  have HB2 := Lib.hid ((HA.out.alloc (by rw [World.size_alloc]; omega) (.cells #[Value.slice (some ⟨w1.heap.size, 0, none⟩) n n, Value.pointer (some ⟨w.heap.size, 0, none⟩)] TBf)))
  refine done (.tuple #[.pointer (some ⟨(w1.alloc (.cells (madeCells #[Value.int .u8 0] n) TU)).heap.size, 0, none⟩), .int .i64 0]) rfl (by simp [results, Try.results7, go_sem]) ⟨_, w1.heap.size, w.heap.size, rfl, ?_, HB.out.trans (HB2.out.mono s1)⟩
  have hln : (List.replicate n (0 : UInt8)).length = n := List.length_replicate
  have hrow : (w1.alloc (.cells (madeCells #[Value.int .u8 0] n) TU)).ownsRow w.heap.size TU 1 (.slice (some ⟨w1.heap.size, 0, none⟩) n n) n (bcells (List.replicate n 0)) :=
    ⟨by simp [bcells], .inr ⟨w1.heap.size, n, madeCells #[Value.int .u8 0] n, rfl, s1, heap_new _ _, Nat.le_refl _, by unfold Go.maxLen; omega, by have := congrArg List.length (made_u8 n); simpa [bcells] using this, by rw [made_u8]; simp [bcells]⟩⟩
  refine ⟨Ob.cast (Ob.new _ _ _) (by rw [hln]), ?_, HW.out.below HB2.out, by rw [World.size_alloc]; omega, fun hh => ?_, fun hh => ?_, by rw [World.size_alloc]; omega⟩
  · rw [hln]; exact own_kept hrow ((Kept.refl (fun _ => False) _).alloc _) (fun _ _ h => h)
  · rcases hh with hh | hh
    · rw [World.size_alloc] at hh; omega
    · cases hh
  · rcases hh with hh | hh
    · omega
    · cases hh
end Go.Proofs.Ytkogodoaejoooaa
