/- A message that comes in pieces (chapter 7): awake. -/
import Derived.Test.YtkogodoaejoooaaReD
import Derived.Test.YtkogodoaejoooaaFrame
import Derived.Lib.SlBytesConst
namespace Go.Proofs.Ytkogodoaejoooaa
open Go.RowKit

theorem rd_marked (w : World) (l : List UInt8) (z : Nat × Nat) (T : TypeId) (hl : l.length ≤ 1000) : Rd (w.alloc (.cells (bcells l).toArray T z)) 1 (.slice (some ⟨w.heap.size, 0, none⟩) l.length l.length) l.length (bcells l) :=
  .inr ⟨_, l.length, rfl, Nat.le_refl _, by unfold Go.maxLen; omega, by simp [bcells], fun j u hj => by
    rw [addr_add, Nat.zero_add]
    exact cell_of_heap (heap_new _ _) (by simpa using hj)⟩
theorem aw_add1 : (⟨3, []⟩ : Is).add 1 3 = ⟨3, [⟨1, 3⟩]⟩ := by
  unfold Is.add
  rw [if_pos ⟨by decide, by decide⟩]; rfl
theorem aw_add2 : (⟨3, [⟨1, 3⟩]⟩ : Is).add 0 1 = ⟨3, [⟨0, 3⟩]⟩ := by
  unfold Is.add
  rw [if_pos ⟨by decide, by decide⟩]; rfl
theorem agr_nil (l p : List UInt8) (off : Nat) : Agr [] l p off := fun _ hx => by cases hx
theorem aw_agr : Agr [⟨1, 3⟩] [0, 98, 99] [97] 0 := by
  intro x hx h1 h2
  have h2 : x < 0 + 1 := h2
  rcases hx with hx | hx
  · have hx : (1 : Int) ≤ x ∧ (x : Int) < 3 := hx
    omega
  · cases hx
set_option maxRecDepth 100000 in
set_option maxHeartbeats 2000000 in
theorem awake_any (w : World) : Calls Try.prog 6 #[] w (TrueBelow w) := by
  have kc := fun (w : World) (C : Array Value) (n c : Nat) => Lib.run_convert_bytes_const (P := Try.prog) w 22 TU C n c Try.underlying22 Try.underlying5
  go_enter Try.func6, Try.ntmps6
  go_wp2_with fail
  refine (new_bf 3 10 w (by decide) (by decide)).mono ?_
  rintro e w1 ⟨b, g, S, rfl, hw1, hb1⟩
  have hw1 : Bf b w.heap.size g S (.slice none 0 0) [0, 0, 0] ⟨3, []⟩ w1 := hw1
  have HW1 := Lib.hid hw1
  have B1 := Lib.hid hb1
  have s1 := hb1.size
  clear hw1 hb1
  go_wp2_with fail
  refine (newbig_bf 11 10 _ (by decide) (by decide) (by decide) (by decide)).mono ?_
  rintro e w2 ⟨rfl, rfl⟩
  have HR2 := Lib.hid (show Rd (w1.alloc (.cells #[.int .u8 98, .int .u8 99] TU (2, 3))) 1 (.slice (some ⟨w1.heap.size, 0, none⟩) 2 2) [(98 : UInt8), 99].length (bcells [98, 99]) from rd_marked w1 [98, 99] (2, 3) TU (by decide))
  have HW2 := Lib.hid (HW1.out.keptF ((Kept.refl (fun _ => False) w1).alloc (.cells #[.int .u8 98, .int .u8 99] TU (2, 3))))
  have B2 := Lib.hid (B1.out.alloc s1 (.cells #[.int .u8 98, .int .u8 99] TU (2, 3)))
  have hgn : w1.heap.size ≠ g := by have := (HW1.out.lt g (.inl rfl)).2; omega
  have s2 := B2.out.size
  go_wp2_with fail
  refine (put_bf b w.heap.size g S _ [0, 0, 0] [98, 99] _ 1 2 ⟨w1.heap.size, 0, none⟩ _ HW2.out (new_ok (by decide) (by decide)) rfl (by decide) HR2.out hgn (by decide) (by decide)).mono ?_
  rintro e w3 hp
  rcases hp with ⟨hn, _⟩ | ⟨_, rfl, hp3⟩
  · exact absurd (agr_nil _ _ _) hn
  have hb3 := hp3.below HW2.out
  obtain ⟨V3, hw3, _⟩ := hp3
  have hw3 : Bf b w.heap.size g S V3 [0, 98, 99] ((⟨3, []⟩ : Is).add 1 3) w3 := hw3
  rw [aw_add1] at hw3
  have HW3 := Lib.hid hw3
  have B3 := Lib.hid (B2.out.trans hb3)
  have s3 := B3.out.size
  clear hw3 hb3 hgn
  have HR3 := Lib.hid (show Rd (w3.alloc (.cells #[.int .u8 97] TU (1, 2))) 1 (.slice (some ⟨w3.heap.size, 0, none⟩) 1 1) [(97 : UInt8)].length (bcells [97]) from rd_marked w3 [97] (1, 2) TU (by decide))
  have HW4 := Lib.hid (HW3.out.keptF ((Kept.refl (fun _ => False) w3).alloc (.cells #[.int .u8 97] TU (1, 2))))
  have B4 := Lib.hid (B3.out.alloc s3 (.cells #[.int .u8 97] TU (1, 2)))
  have hgn : w3.heap.size ≠ g := by have := (HW3.out.lt g (.inl rfl)).2; omega
  go_wp2_with fail
  refine (put_bf b w.heap.size g S _ [0, 98, 99] [97] _ 0 1 ⟨w3.heap.size, 0, none⟩ _ HW4.out ⟨by decide, by decide, by simp [Asc]⟩ rfl (by decide) HR3.out hgn (by decide) (by decide)).mono ?_
  rintro e w5 hp
  rcases hp with ⟨hn, _⟩ | ⟨_, rfl, hp5⟩
  · exact absurd aw_agr hn
  have hb5 := hp5.below HW4.out
  obtain ⟨V5, hw5, _⟩ := hp5
  have hw5 : Bf b w.heap.size g S V5 [97, 98, 99] ((⟨3, [⟨1, 3⟩]⟩ : Is).add 0 1) w5 := hw5
  rw [aw_add2] at hw5
  have HW5 := Lib.hid hw5
  have B5 := Lib.hid (B4.out.trans hb5)
  have s5 := B5.out.size
  have e5 : (⟨(3 : Int), [⟨1, 3⟩]⟩ : Is).fr ((0 : Nat) : Int) ((0 + [(97 : UInt8)].length : Nat) : Int) = 1 := rfl
  simp only [e5]
  clear hw5 hb5 e5 hgn
  go_wp2_with fail
  refine (data_bf b w.heap.size g S V5 _ _ _ HW5.out ⟨by decide, by decide, by simp [Asc]⟩ (by decide) (by decide)).mono ?_
  rintro e w6 ⟨v6, rfl, hb6, hv6⟩
  have hv6 := hv6 rfl
  have B6 := Lib.hid (B5.out.trans (hb6.mono s5))
  have HR6 := Lib.hid (Rd.of_own hv6)
  have e6 : (total [(⟨0, 3⟩ : Rg)] == (3 : Int)) = true := rfl
  simp only [e6]
  clear hb6 hv6
  go_wp2_with (refine wpList_str rfl 22 9 (.tmp 63) rfl Try.underlying22 Try.underlying5 Try.underlying9 HR6.out rfl ?_)
  go_ret
  exact ⟨by simp, B6.out⟩
end Go.Proofs.Ytkogodoaejoooaa
