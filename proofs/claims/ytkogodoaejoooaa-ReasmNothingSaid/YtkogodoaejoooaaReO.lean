/- The law ReasmNothing (chapter 7), walked. -/
import Derived.Test.YtkogodoaejoooaaReN
import Derived.Deep.CutBlock
namespace Go.Proofs.Ytkogodoaejoooaa
open Go.RowKit

theorem whole_add {n : Nat} (h : 0 < n) (h2 : n ≤ 1073741824) : (⟨(n : Int), []⟩ : Is).add 0 n = ⟨n, [⟨0, n⟩]⟩ := by
  unfold Is.add
  rw [if_pos ⟨⟨by omega, by omega, Int.le_refl _⟩, by unfold Is.fr; show ((n : Int) - 0 - 0) ≠ 0; omega⟩]; rfl
theorem whole_ok {n : Nat} (h : 0 < n) (h2 : n ≤ 1073741824) : (⟨n, [⟨0, n⟩]⟩ : Is).ok := ⟨by show (0 : Int) ≤ n; omega, by show (n : Int) ≤ _; omega, ⟨Int.le_refl _, by show (0 : Int) < n; omega, Int.le_refl _, trivial⟩⟩
theorem whole_total (n : Nat) : total [(⟨0, (n : Int)⟩ : Rg)] = n := by
  show ((n : Int) - 0 + 0) = n; omega
theorem over_whole (l m : List UInt8) (h : l.length = m.length) : over l m 0 = m := by
  unfold over
  simp [h]
theorem bc_cell {l : List UInt8} (h : 0 < l.length) : (bcells l)[0]? = some (.int .u8 (l[0].toNat : Int)) := by
  unfold bcells
  rw [List.getElem?_map, List.getElem?_eq_getElem h]; rfl
set_option maxRecDepth 100000 in
set_option maxHeartbeats 4000000 in
theorem nothing_in (l : List UInt8) (v : Value) (w : World) (h : Rd w 1 v l.length (bcells l)) (h0 : 0 < l.length) (h1 : l.length ≤ 300) : Calls Try.prog 5 #[v] w (TrueBelow w) := by
  obtain ⟨a, c, rfl, _, _⟩ := h.form
  have HR := Lib.hid h
  have hne : ((l.length : Int) == 0) = false := beq_eq_false_iff_ne.2 (by omega)
  clear h
  go_enter Try.func5, Try.ntmps5
  go_wp2_with fail
  refine (putnil_bf 0 _ _).mono ?_
  rintro e w1 ⟨rfl, rfl⟩
  go_wp2_with fail
  refine (datanil_bf _).mono ?_
  rintro e w1 ⟨rfl, rfl⟩
  go_wp2_with fail
  refine (new_bf l.length 300 _ (by omega) (by decide)).mono ?_
  rintro e w2 ⟨b, g, S, rfl, hw2, hb2⟩
  have HW2 := Lib.hid hw2
  have B2 := Lib.hid hb2
  have s2 := hb2.size
  clear hw2 hb2
  go_wp2_with fail
  refine (leftnil_bf _).mono ?_
  rintro e w1 ⟨rfl, rfl⟩
  go_wp2_with fail
  refine (totalnil_bf _).mono ?_
  rintro e w1 ⟨rfl, rfl⟩
  go_wp2_with fail
  refine (frontnil_bf _).mono ?_
  rintro e w1 ⟨rfl, rfl⟩
  go_wp2_with fail
  refine (gapsnil_bf 1 1 _).mono ?_
  rintro e w1 ⟨rfl, rfl⟩
  have E0 := Lib.hid (World.ownsRow_made (base := w2.heap.size) (e := TU) (size := 1) w2 #[] 0 (by simp) (by decide) rfl)
  have R0 := Lib.hid ((HR.out.below B2.out).alloc (.cells #[] TU))
  go_wp2_with (at_builtin; (refine wpList_appAt rfl (.tmp 75) (.tmp 76) 22 rfl info_u8 Try.underlying22 rfl (by decide) E0.out R0.out rfl rfl (bcells_one l) (by omega) (by rw [World.size_alloc]; omega) ?_; intro v4 w4 ho4 hg4 hb4; have B4 := Lib.hid (((Below.refl w2.heap.size w2).alloc (Nat.le_refl _) (.cells #[] TU)).grown hg4 (by rw [World.size_alloc]; omega) (fun y hy => (E0.out.lt y hy).1)); rw [Nat.zero_add, List.nil_append] at ho4; obtain ⟨g4, k4, hv4, hk4⟩ := own_some ho4 h0; subst hv4; have HO4 := Lib.hid ho4; clear ho4 hg4 hb4))
  obtain ⟨hg1, hg2⟩ : w2.heap.size ≤ g4 ∧ g4 < w4.heap.size := own_lt HO4.out g4 rfl
  have HW4 := Lib.hid (HW2.out.below B4.out)
  have BB4 := Lib.hid (B2.out.trans (B4.out.mono s2))
  have hgg : g4 ≠ g := by have := (HW2.out.lt g (.inl rfl)).2; omega
  have hl1 : (List.replicate l.length (0 : UInt8)).length = l.length := List.length_replicate
  clear hk4 E0 R0
  refine (put_bf b w.heap.size g S _ _ l _ 0 k4 ⟨g4, 0, none⟩ _ HW4.out (new_ok (by omega) (by omega)) (by rw [hl1]) (Nat.zero_le _) (Rd.of_own HO4.out) hgg (by rw [hl1]; omega) (by rw [hl1]; omega)).mono ?_
  rintro e w5 hp
  rcases hp with ⟨hn, _⟩ | ⟨_, rfl, hp5⟩
  · exact absurd (agr_nil _ _ _) hn
  have hb5 := hp5.below HW4.out
  obtain ⟨V5, hw5, hk5, hn5⟩ := hp5
  rw [over_whole _ _ hl1] at hw5
  have hadd : (⟨(l.length : Int), []⟩ : Is).add ((0 : Nat) : Int) ((0 + l.length : Nat) : Int) = ⟨l.length, [⟨0, l.length⟩]⟩ := by
    rw [Nat.zero_add]; exact whole_add h0 (by omega)
  rw [hadd] at hw5
  have HW5 := Lib.hid hw5
  have BB5 := Lib.hid (BB4.out.trans hb5)
  have hnM : ¬ BM g S (.slice none 0 0) g4 := fun hh => by
    rcases hh with hh | hh
    · exact hgg hh
    · have := (HW2.out.set.lt g4 hh).2; omega
  have HO5 := Lib.hid (own_kept HO4.out hk5 (fun x hx hh => hnM (by cases hx; exact hh)))
  have hnb : g4 ≠ b := by have := HW2.out.ob.lt; omega
  have hnM5 : ¬ BM g S V5 g4 := fun hh => by
    rcases hn5 g4 hh with hh | hh
    · exact hnM hh
    · omega
  clear hadd hw5 hb5 hk5 hn5
  have hg5 := (own_lt HO5.out g4 rfl).2
  obtain ⟨_, _, _, _, cs, hr5, _, hcx5⟩ := own_row HO5.out
  have c50 : w5.cell? ⟨g4, 0, none⟩ = some (.int .u8 (l[0].toNat : Int)) := by
    rw [hr5.cell]
    have h := bc_cell h0
    rw [← hcx5, List.getElem?_take] at h
    split at h
    · exact h
    · cases h
  have f50 : w5.frozen? ⟨g4, 0, none⟩ = false := hr5.free _
  generalize (l[0].toNat : Int) = y0 at *
  clear hr5 hcx5
  have hgnb : b ≠ g4 := fun h => hnb h.symm
  go_upto_region 12 with fail
  have hwg : w.heap.size ≤ g4 := by omega
  have HW6 := Lib.hid (HW5.out.kept ((Kept.refl (Only g4) w5).setO (i := 0) (v := .int .u8 ((y0 + 1) % 256))) hgnb (fun x hx hh => hnM5 (by rw [← show x = g4 from hh]; exact hx)))
  have BB6 := Lib.hid (BB5.out.setCell (p := ⟨g4, 0, none⟩) hwg (.int .u8 ((y0 + 1) % 256)))
  generalize w5.setCell ⟨g4, 0, none⟩ (.int .u8 ((y0 + 1) % 256)) = w6 at *
  have s6 := BB6.out.size
  have hok := whole_ok h0 (show l.length ≤ 1073741824 by omega)
  have htot := whole_total l.length
  have hbt : (total [(⟨0, (l.length : Int)⟩ : Rg)] == (l.length : Int)) = true := by rw [htot]; simp
  have HOK := Lib.hid hok
  have HTO := Lib.hid htot
  have HBT := Lib.hid hbt
  clear hok htot hbt c50 f50 hnM hnM5 hgnb hnb
  go_wp2_with fail
  refine (data_bf b w.heap.size g S V5 _ _ _ HW6.out HOK.out (by simp) (by omega)).mono ?_
  rintro e w7 ⟨v7, rfl, hb7, hv7⟩
  have hv7 := hv7 HTO.out
  have BB7 := Lib.hid (BB6.out.trans (hb7.mono s6))
  have HW7 := Lib.hid (HW6.out.below hb7)
  have s7 := BB7.out.size
  obtain ⟨g7, k7, hv, hx7⟩ := own_some hv7 h0
  clear hx7
  subst hv
  have HR7 := Lib.hid (Rd.of_own hv7)
  have HO7 := Lib.hid hv7
  have HR0 := Lib.hid (HR.out.below BB7.out)
  have hb : (({ tot := (l.length : Int), l := [⟨0, l.length⟩] } : Is).l) = [⟨0, l.length⟩] := rfl
  simp only [HBT.out]
  obtain ⟨hg71, hg72⟩ : w6.heap.size ≤ g7 ∧ g7 < w7.heap.size := own_lt hv7 g7 rfl
  obtain ⟨_, _, _, _, cs7, hr7, _, hcx7⟩ := own_row hv7
  have c70 : w7.cell? ⟨g7, 0, none⟩ = some (.int .u8 (l[0].toNat : Int)) := by
    rw [hr7.cell]
    have h := bc_cell h0
    rw [← hcx7, List.getElem?_take] at h
    split at h
    · exact h
    · cases h
  have f70 : w7.frozen? ⟨g7, 0, none⟩ = false := hr7.free _
  generalize (l[0].toNat : Int) = y7 at *
  have hnM7 : ¬ BM g S V5 g7 := fun hh => by have := (HW6.out.lt g7 hh).2; omega
  have hnb7 : b ≠ g7 := by have := HW6.out.ob.lt; omega
  have HB71 := Lib.hid (BB7.out.setCell (p := ⟨g7, 0, none⟩) (show w.heap.size ≤ g7 by omega) (.int .u8 ((y7 + 1) % 256)))
  have HW71 := Lib.hid (HW7.out.kept ((Kept.refl (Only g7) w7).setO (i := 0) (v := .int .u8 ((y7 + 1) % 256))) hnb7 (fun x hx hh => hnM7 (by rw [← show x = g7 from hh]; exact hx)))
  clear hb7 hv7 hb hr7 hcx7
  go_wp2_with (first
    | (refine wpList_str rfl 22 9 (.tmp 94) rfl Try.underlying22 Try.underlying5 Try.underlying9 HR7.out rfl ?_)
    | (refine wpList_str rfl 22 9 (.tmp 96) rfl Try.underlying22 Try.underlying5 Try.underlying9 HR0.out rfl ?_))
  generalize w7.setCell ⟨g7, 0, none⟩ (.int .u8 ((y7 + 1) % 256)) = w71 at *
  have s71 := HB71.out.size
  refine (data_bf b w.heap.size g S V5 _ _ _ HW71.out HOK.out (by simp) (by omega)).mono ?_
  rintro e w8 ⟨v8, rfl, hb8, hv8⟩
  have hv8 := hv8 HTO.out
  have BB8 := Lib.hid (HB71.out.trans (hb8.mono s71))
  have HR8 := Lib.hid (Rd.of_own hv8)
  have s8 := BB8.out.size
  have HR01 := Lib.hid (HR.out.below BB8.out)
  obtain ⟨a8, c8, rfl, _, _⟩ := (Rd.of_own hv8).form
  simp only [HBT.out]
  clear hb8 hv8
  go_wp2_with (first
    | (refine wpList_str rfl 22 9 (.tmp 110) rfl Try.underlying22 Try.underlying5 Try.underlying9 HR8.out rfl ?_)
    | (refine wpList_str rfl 22 9 (.tmp 112) rfl Try.underlying22 Try.underlying5 Try.underlying9 HR01.out rfl ?_))
  refine (awake_any _).mono ?_
  rintro e w9 ⟨rfl, hb9⟩
  go_wp2_with fail
  go_ret
  exact ⟨by simp, BB8.out.trans (hb9.mono s8)⟩
set_option maxRecDepth 100000 in
theorem nothing_any (l : List UInt8) (v : Value) (w : World) (h : Rd w 1 v l.length (bcells l)) : Calls Try.prog 5 #[v] w (TrueBelow w) := by
  by_cases hc : 0 < l.length ∧ l.length ≤ 300
  · exact nothing_in l v w h hc.1 hc.2
  · obtain ⟨v, cp, rfl, h1, h2⟩ := h.form
    clear h
    rcases (by omega : l.length = 0 ∨ (0 < l.length ∧ 300 < l.length)) with h | ⟨h, h3⟩
    · have hne : ((l.length : Int) == 0) = true := beq_iff_eq.2 (by omega)
      clear hc h
      go_enter Try.func5, Try.ntmps5
      go_wp2_with fail
      refine (awake_any _).mono ?_
      rintro e w2 ⟨rfl, hb⟩
      go_wp2_with fail
      go_ret
      exact ⟨rfl, hb⟩
    · have hne : ((l.length : Int) == 0) = false := beq_eq_false_iff_ne.2 (by omega)
      clear hc
      go_enter Try.func5, Try.ntmps5
      go_wp2_with fail
      refine (awake_any _).mono ?_
      rintro e w2 ⟨rfl, hb⟩
      go_wp2_with fail
      go_ret
      exact ⟨rfl, hb⟩
end Go.Proofs.Ytkogodoaejoooaa
