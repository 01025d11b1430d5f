/- The law SegmAsks, walked. -/
import Derived.Test.YtikodggaamnooaaI
import Derived.Test.YtikodggaamnooaaOrd
namespace Go.Proofs.Ytikodggaamnooaa
open Go.RowKit

theorem sb_below {W w1 : World} (h1 : Below W.heap.size W w1 ∧ ∀ b o, b < W.heap.size → w1.cell? ⟨b, o, none⟩ = W.cell? ⟨b, o, none⟩) : Below W.heap.size W w1 := h1.1

theorem cutOK_uniq (F T t m : Int) (n n' : Nat) (h : cutOK F T t m n) (h' : cutOK F T t m n') : n = n' := by
  unfold cutOK at h h'
  split at h
  · rename_i hc
    rw [if_pos hc] at h'
    rcases Nat.lt_trichotomy n n' with hl | he | hl
    · have := h'.2 n hl; have := h.1; omega
    · exact he
    · have := h.2 n' hl; have := h'.1; omega
  · rename_i hc
    rw [if_neg hc] at h'
    rw [h, h']
theorem cut_any (F T t m : Int) (w : World) (hT : T ≤ 9223372036854775807) : Calls Try.prog 7 #[.agg #[.int .i64 F, .int .i64 T], .int .i64 t, .int .i64 m] w (CutPost F T t m w) := by
  by_cases h : 0 < count t m ∧ 0 ≤ F ∧ F ≤ T
  · exact cut_yes F T t m w h hT
  · exact cut_no F T t m w h
theorem cut_ref (F T t m : Int) (n : Nat) (w : World) (hok : cutOK F T t m n) : Calls Try.prog 17 #[.agg #[.int .i64 F, .int .i64 T], .int .i64 t, .int .i64 m] w (CutPost F T t m w) := by
  by_cases h : 0 < count t m ∧ 0 ≤ F ∧ F ≤ T
  · exact cut_ref_yes F T t m n w h.1 h.2.1 h.2.2 hok
  · exact cut_ref_no F T t m w h

set_option maxRecDepth 100000 in
set_option maxHeartbeats 2000000 in
theorem asks_in (t m k o F T : Int) (v : Value) (l : List UInt8) (w : World) (h : Rd w 1 v l.length (bcells l)) (hl : l.length ≤ 1000) (hd : t ≤ 10000 ∨ (10000 < t ∧ 1073741824 < t) ∨ (10000 < t ∧ t ≤ 1073741824 ∧ 1000 ≤ m)) (hT : T ≤ 9223372036854775807) (ho : o ≤ 9223372036854775807) :
   Calls Try.prog 5 #[.int .i64 t, .int .i64 m, .int .i64 k, .int .i64 o, .agg #[.int .i64 F, .int .i64 T], v] w (TrueBelow w) := by
  obtain ⟨a, cap, rfl, h1, h2⟩ := h.form
  have H := Lib.hid h
  clear h
  have hpp : ∃ x y z, pieceV t m k = .tuple #[.agg #[.int .i64 x, .int .i64 y], .int .i64 z] := by unfold pieceV; split <;> exact ⟨_, _, _, rfl⟩
  obtain ⟨x, y, z, hp⟩ := hpp
  have HP := Lib.hid hp
  clear hp
  rcases hd with ht | ⟨ht, ht2⟩ | ⟨ht, ht2, ht3⟩
  all_goals
    go_enter Try.func5, Try.ntmps5
    go_wp2_with fail
    refine (piece_any _ _ _ _).mono ?_
    rintro e w1 ⟨rfl, hb1⟩
    rw [HP.out]
    have B1 : Below w.heap.size w w1 := ((Below.refl _ _).alloc (Nat.le_refl _) _).trans (hb1.mono (by simp))
    have hx1 := below_heap hb1 (by simp) (heap_new w _)
    have HB1 := Lib.hid B1
    have HX1 := Lib.hid hx1
    clear hb1 B1 hx1
    go_wp2_with fail
    refine (piece_ref _ _ _ _).mono ?_
    rintro e w2 ⟨rfl, hb2⟩
    rw [HP.out]
    have hp2 := below_heap hb2 (by simp) (heap_new w1 _)
    have hx2 := below_heap hb2 (Nat.lt_trans (heap_lt HX1.out) (by simp)) (heap_old _ HX1.out)
    have B2 : Below w.heap.size w w2 := HB1.out.trans ((((Below.refl _ _).alloc (Nat.le_refl _) _).mono HB1.out.size).trans (hb2.mono (by have := HB1.out.size; simp; omega)))
    have HB2 := Lib.hid B2
    have HP2 := Lib.hid hp2
    have HX2 := Lib.hid hx2
    clear hb2 hp2 hx2 B2
    have hs1 := HB1.out.size
    have hs2 := HB2.out.size
    have hx3 := heap_old (.cells #[.int .i64 x, .int .i64 y] 23) HX2.out
    have hp3 := heap_old (.cells #[.int .i64 x, .int .i64 y] 23) HP2.out
    have hq3 := heap_new w2 (.cells #[.int .i64 x, .int .i64 y] 23)
    have hB3 := HB2.out.alloc hs2 (.cells #[.int .i64 x, .int .i64 y] 23)
    go_wp2_with fail
    generalize w2.alloc (.cells #[.int .i64 x, .int .i64 y] 23) = W at *
    have HX := Lib.hid hx3
    have HP3 := Lib.hid hp3
    have HQ3 := Lib.hid hq3
    have hR := Lib.hid (H.out.below hB3)
    clear hx3 hp3 hq3 hs1 hs2
    refine wp_ord (M := fun _ => False) (stages [([true, true, false, true, true, false, false, false, false, false, false, false, false, false, false, false, false, false, false, false, false, false, false, false, false, false, false, false, false, false, false, false, false, false, false, false, false, false, false], 2), ([false, false, false, false, false, false, false, false, false, false, false, false, false, false, false, false, false, false, false, false, false, false, false, false, false, false, false, false, false, false, false, false, false, false, false, false, false, false, false], 5), ([false, false, false, false, false, false, true, true, true, true, true, true, true, true, true, true, true, true, true, true, true, false, true, true, true, false, false, false, false, false, false, false, false, false, false, false, false, false, false], 21), ([false, false, false, false, false, false, false, false, false, false, false, false, false, false, false, false, false, false, false, false, false, false, false, false, false, false, false, false, false, false, false, false, false, false, false, false, false, false, false], 25), ([false, false, false, false, false, false, false, false, false, false, false, false, false, false, false, false, false, false, false, false, false, false, false, false, false, false, true, true, true, true, true, false, false, true, true, false, false, false, false], 31), ([false, false, false, false, false, false, false, false, false, false, false, false, false, false, false, false, false, false, false, false, false, false, false, false, false, false, false, false, false, false, false, false, true, false, false, false, false, false, false], 35)] [false, false, false, false, false, false, false, false, false, false, false, false, false, false, false, false, false, false, false, false, false, false, false, false, false, false, false, false, false, false, false, false, false, false, false, false, true, true, true]) (by kernel_rfl) (by kernel_rfl) ?_
    -- the six calls, one behind the other
    refine ord_stage rfl ?_
    simp only [pickAt]
    repeat (go_big_quiet_step (fail))
    refine wpQuiet_nil ?_
    refine act_want rfl ?_
    intro x1 hx1 A hA
    go_simp
    refine (count_any _ _ _).mono ?_
    rintro e x1' ⟨rfl, rfl⟩
    refine hA _ _ (Kept.refl _ _) ?_
    clear A hA
    refine ord_stage rfl ?_
    simp only [pickAt]
    repeat (go_big_quiet_step (fail))
    refine wpQuiet_nil ?_
    refine act_want rfl ?_
    intro x2 hx2 A hA
    go_simp
    refine (count_ref _ _ _).mono ?_
    rintro e x2' ⟨rfl, rfl⟩
    refine hA _ _ (Kept.refl _ _) ?_
    clear A hA
    have k2 := hx1.trans hx2
    obtain ⟨lp, cp, _⟩ := blk (k2.heap HP3.out id)
    obtain ⟨lq, cq, _⟩ := blk (k2.heap HQ3.out id)
    refine ord_stage rfl ?_
    simp only [pickAt]
    repeat (go_big_quiet_step (fail))
    refine wpQuiet_nil ?_
    refine act_want rfl ?_
    intro x3 hx3 A hA
    go_simp
    refine (at_any _ _ _ _ ho).mono ?_
    rintro e x3' ⟨rfl, rfl⟩
    refine hA _ _ (Kept.refl _ _) ?_
    clear A hA
    refine ord_stage rfl ?_
    simp only [pickAt]
    repeat (go_big_quiet_step (fail))
    refine wpQuiet_nil ?_
    refine act_want rfl ?_
    intro x4 hx4 A hA
    go_simp
    refine (at_ref _ _ _ _ ho).mono ?_
    rintro e x4' ⟨rfl, rfl⟩
    refine hA _ _ (Kept.refl _ _) ?_
    clear A hA
    have k4 := k2.trans (hx3.trans hx4)
    obtain ⟨lr, cr, _⟩ := blk (k4.heap HX.out id)
    clear lp cp lq cq
    refine ord_stage rfl ?_
    simp only [pickAt]
    repeat (go_big_quiet_step (fail))
    refine wpQuiet_nil ?_
    refine act_want rfl ?_
    intro x5 hx5 A hA
    go_simp
    refine (bytes_any _ l F T _ (hR.out.keptF (k4.trans hx5)) (by omega)).mono ?_
    rintro e y5 ⟨v5, rfl, ho5, hb5⟩
    refine hA _ _ (Kept.of_below hb5) ?_
    clear A hA lr cr
    have k5 := k4.trans (hx5.trans (Kept.of_below hb5))
    have hr5 := Rd.of_own ho5
    have hc5 := fun k => run_str (P := Try.prog) Try.underlying28 Try.underlying5 Try.underlying9 (hr5.later k)
    refine ord_stage rfl ?_
    simp only [pickAt]
    repeat (go_big_quiet_step (fail))
    refine wpQuiet_nil ?_
    refine act_want rfl ?_
    intro x6 hx6 A hA
    go_simp
    refine (bytes_ref _ l F T _ (hR.out.keptF (k5.trans hx6)) (by omega)).mono ?_
    rintro e y6 ⟨v6, rfl, hr6, hb6⟩
    refine hA _ _ (Kept.of_below hb6) ?_
    clear A hA hc5
    have k6 := k5.trans (hx6.trans (Kept.of_below hb6))
    have hc6 := fun k => run_str (P := Try.prog) Try.underlying28 Try.underlying5 Try.underlying9 (hr6.later k)
    refine ord_last ?_
    simp only [pickAt]
    repeat (go_big_quiet_step (fail))
    refine wpQuiet_nil ?_
    intro x7 hx7
    have k7 := k6.trans hx7
    obtain ⟨lr, cr, _⟩ := blk (k7.heap HX.out id)
    have hB7 : Below w.heap.size w x7 := hB3.trans (k7.below.mono hB3.size)
    clear hc6 hx1 hx2 hx3 hx4 hx5 hx6 hx7 k2 k4 k5 k6 hB3 ho5 hb5 hr5 hr6 hb6
  rotate_left
  · go_wp2_with (go_at_call 6; refine (awake_any _).mono ?_; rintro e w' ⟨rfl, hb⟩)
    go_ret
    exact ⟨rfl, hB7.trans (hb.mono hB7.size)⟩
  · go_wp2_with (go_at_call 6; refine (awake_any _).mono ?_; rintro e w' ⟨rfl, hb⟩)
    go_ret
    exact ⟨rfl, hB7.trans (hb.mono hB7.size)⟩
  go_wp2_with fail
  refine wp_ord (M := fun _ => False) (stages [([true, true, true, false, true, true, true, false, false, false, false, false, false], 3), ([false, false, false, false, false, false, false, false, false, false, false, false, false], 7), ([false, false, false, false, false, false, false, false, false, false, false, false, false], 8), ([false, false, false, false, false, false, false, false, false, true, false, false, false], 10)] [false, false, false, false, false, false, false, false, false, false, false, true, true]) (by kernel_rfl) (by kernel_rfl) ?_
  refine ord_stage rfl ?_
  simp only [pickAt]
  repeat (go_big_quiet_step (fail))
  refine wpQuiet_nil ?_
  refine act_want rfl ?_
  intro z1 hz1 A hA
  go_simp
  refine (cut_any F T t m _ hT).mono ?_
  rintro e z1' ⟨v1, n, rfl, hok, ho1, hb1⟩
  have HOK := Lib.hid hok
  refine hA _ _ (Kept.of_below hb1) ?_
  have j1 := hz1.trans (Kept.of_below hb1)
  clear A hA hz1 hb1 hok lr cr
  refine ord_stage rfl ?_
  simp only [pickAt]
  repeat (go_big_quiet_step (fail))
  refine wpQuiet_nil ?_
  refine act_want rfl ?_
  intro z2 hz2 A hA
  go_simp
  refine (cut_ref F T t m n _ HOK.out).mono ?_
  rintro e z2' ⟨v2, n', rfl, hok', ho2, hb2⟩
  refine hA _ _ (Kept.of_below hb2) ?_
  obtain rfl := cutOK_uniq F T t m _ _ HOK.out hok'
  have j2 := j1.trans (hz2.trans (Kept.of_below hb2))
  have hr1 := (Rd.of_own ho1).keptF (hz2.trans (Kept.of_below hb2))
  have hr2 := Rd.of_own ho2
  have hr1' : Rd z2' 2 v1 (cutL (F - F % m) m t n).length (rowOf (cutL (F - F % m) m t n)) := by rw [cutL_len]; exact hr1
  have hr2' : Rd z2' 2 v2 (cutL (F - F % m) m t n).length (rowOf (cutL (F - F % m) m t n)) := by rw [cutL_len]; exact hr2
  clear A hA hz2 hb2 hok' hr1 hr2 ho1 ho2
  refine ord_stage rfl ?_
  simp only [pickAt]
  repeat (go_big_quiet_step (fail))
  refine wpQuiet_nil ?_
  refine act_want rfl ?_
  intro z3 hz3 A hA
  go_simp
  refine (ranges_eq _ _ _ _ (hr1'.keptF hz3) (hr2'.keptF hz3)).mono ?_
  rintro e z3' ⟨rfl, q3, rfl⟩
  refine hA _ _ (Kept.dn _ _ _) ?_
  have j3 := j2.trans (hz3.trans (Kept.dn _ _ q3))
  clear A hA hz3 hr1' hr2'
  refine ord_stage rfl ?_
  simp only [pickAt]
  repeat (go_big_quiet_step (fail))
  refine wpQuiet_nil ?_
  refine act_want rfl ?_
  intro z4 hz4 A hA
  go_simp
  refine (awake_any _).mono ?_
  rintro e z4' ⟨rfl, hb4⟩
  refine hA _ _ (Kept.of_below hb4) ?_
  have j4 := j3.trans (hz4.trans (Kept.of_below hb4))
  clear A hA hz4 hb4
  refine ord_last ?_
  simp only [pickAt]
  repeat (go_big_quiet_step (fail))
  refine wpQuiet_nil ?_
  intro z5 hz5
  have j5 := j4.trans hz5
  go_wp2
  go_ret
  exact ⟨rfl, hB7.trans (j5.below.mono hB7.size)⟩

set_option maxHeartbeats 400000 in
theorem asks_out (t m k o F T : Int) (v : Value) (l : List UInt8) (w : World) (h : Rd w 1 v l.length (bcells l)) (hd : (10000 < t ∧ t ≤ 1073741824 ∧ m < 1000) ∨ 1000 < l.length) :
   Calls Try.prog 5 #[.int .i64 t, .int .i64 m, .int .i64 k, .int .i64 o, .agg #[.int .i64 F, .int .i64 T], v] w (TrueBelow w) := by
  obtain ⟨a, cap, rfl, h1, h2⟩ := h.form
  clear h
  go_enter Try.func5, Try.ntmps5
  go_wp2_with (go_at_call 6; refine (awake_any _).mono ?_; rintro e w' ⟨rfl, hb⟩)
  all_goals (go_ret; exact ⟨rfl, ((Below.refl _ _).alloc (Nat.le_refl _) _).trans (hb.mono (by simp))⟩)

end Go.Proofs.Ytikodggaamnooaa
