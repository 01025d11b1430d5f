/- How what waits is put in order (chapter 2). -/
import Derived.Test.YtlibnjhoggfhfaaWheelSl
import Derived.Test.YtlibnjhoggfhfaaNum
namespace Go.Proofs.Ytlibnjhoggfhfaa
open Go.RowKit

theorem cnan_int (x : Int) (w : World) : Calls Try.prog 46 #[.int .i64 x] w fun e w' => e = .returned (.bool false) ∧ w = w' := by
  go_enter Try.func46, Try.ntmps46
  go_wp2_with fail
  go_ret
  exact ⟨by simp, rfl⟩
theorem compare_int (a b : Int) (w : World) : Calls Try.prog 41 #[.int .i64 a, .int .i64 b] w fun e w' => e = .returned (.int .i64 (cmpI a b)) ∧ w = w' := by
  rcases (by omega : a < b ∨ (¬ a < b ∧ b < a) ∨ (¬ a < b ∧ ¬ b < a)) with h | ⟨h, h2⟩ | ⟨h, h2⟩
  · have e1 := Lib.hid (show cmpI a b = -1 from if_pos h)
    go_enter Try.func41, Try.ntmps41
    go_wp2_with (go_at_call 46; refine (cnan_int _ _).mono ?_; rintro e w' ⟨rfl, rfl⟩)
    go_ret
    exact ⟨by rw [e1.out]; rfl, rfl⟩
  · have e1 := Lib.hid (show cmpI a b = 1 by unfold cmpI; rw [if_neg h, if_pos h2])
    have hd : decide (a < b) = false := decide_eq_false h
    have hd2 : decide (b < a) = true := decide_eq_true h2
    go_enter Try.func41, Try.ntmps41
    go_wp2_with (go_at_call 46; refine (cnan_int _ _).mono ?_; rintro e w' ⟨rfl, rfl⟩)
    go_ret
    exact ⟨by rw [e1.out]; rfl, rfl⟩
  · have e1 := Lib.hid (show cmpI a b = 0 by unfold cmpI; rw [if_neg h, if_neg h2])
    have hd : decide (a < b) = false := decide_eq_false h
    have hd2 : decide (b < a) = false := decide_eq_false h2
    go_enter Try.func41, Try.ntmps41
    go_wp2_with (go_at_call 46; refine (cnan_int _ _).mono ?_; rintro e w' ⟨rfl, rfl⟩)
    go_ret
    exact ⟨by rw [e1.out]; rfl, rfl⟩
theorem or_int (a b : Int) (v : Value) (w : World) (h : Rd w 1 v 2 [.int .i64 a, .int .i64 b]) : Calls Try.prog 40 #[v] w fun e w' => e = .returned (.int .i64 (orV a b)) ∧ w = w' := by
  have HR := Lib.hid (show Rd w 1 v [a, b].length ([a, b].map (Value.int .i64)) from h)
  clear h
  obtain ⟨x, c, rfl, h1, h2⟩ := HR.out.form
  go_enter Try.func40, Try.ntmps40
  go_wp2_with fail
  go_loopw [8] (fun i wr => ∃ (k : Nat), i = .int .i64 k ∧ k ≤ 2 ∧ (∀ y ∈ [a, b].take k, y = 0) ∧ w = wr) (fun i _ => 2 - (intOf i).toNat)
  case atStart => exact ⟨0, rfl, by omega, fun y hy => (by simp at hy), rfl⟩
  case round =>
    obtain ⟨k, rfl, hk, ha, rfl⟩ := hrel
    have HA := Lib.hid ha
    clear ha
    rcases (by omega : k = 0 ∨ k = 1 ∨ k = 2) with rfl | rfl | rfl
    · obtain ⟨g, o, rfl, c0⟩ := HR.out.at 0 (by simp)
      have c0 : w.cell? ⟨g, o, none⟩ = some (.int .i64 a) := c0
      by_cases hz : a = 0
      · have hzb : (a != 0) = false := by simp [hz]
        have HZ := Lib.hid hz
        clear hz
        go_wp2_with fail
        go_roundw
        case rel => exact ⟨1, rfl, by omega, fun y hy => by simp at hy; rw [hy]; exact HZ.out, trivial⟩
        case measure => simp [intOf]
      · have hzb : (a != 0) = true := by simp [hz]
        have e1 := Lib.hid (show orV a b = a from if_neg hz)
        clear hz
        go_wp2_with fail
        go_ret
        exact ⟨by rw [e1.out]; rfl, rfl⟩
    · obtain ⟨g, o, rfl, c0⟩ := HR.out.at 1 (by simp)
      have c0 : w.cell? ⟨g, o + 1, none⟩ = some (.int .i64 b) := c0
      have HZA := Lib.hid (HA.out a (by simp))
      have e1 := Lib.hid (show orV a b = b from if_pos HZA.out)
      by_cases hz : b = 0
      · have hzb : (b != 0) = false := by simp [hz]
        have HZ := Lib.hid hz
        clear hz
        go_wp2_with fail
        go_roundw
        case rel => exact ⟨2, rfl, by omega, fun y hy => by simp at hy; rcases hy with rfl | rfl; exact HZA.out; exact HZ.out, trivial⟩
        case measure => simp [intOf]
      · have hzb : (b != 0) = true := by simp [hz]
        clear hz
        go_wp2_with fail
        go_ret
        exact ⟨by rw [e1.out]; rfl, rfl⟩
    · have e1 := Lib.hid (show orV a b = 0 by unfold orV; rw [if_pos (HA.out a (by simp))]; exact HA.out b (by simp))
      go_wp2_with fail
      go_ret
      exact ⟨by rw [e1.out]; rfl, rfl⟩
theorem order_dui (x d : Du) (W : World) : Calls Try.prog 25 (#[.agg #[.int .i64 x.at', .int .i64 x.id, x.v], .agg #[.int .i64 d.at', .int .i64 d.id, d.v]] ++ #[]) W fun e w' => e = .returned (.int .i64 (x.cmp d)) ∧ Below W.heap.size W w' := by
  show Calls Try.prog 25 #[.agg #[.int .i64 x.at', .int .i64 x.id, x.v], .agg #[.int .i64 d.at', .int .i64 d.id, d.v]] W _
  go_enter Try.func25, Try.ntmps25
  go_wp2_with fail
  have OX := Lib.hid ((Ob.new W #[.int .i64 x.at', .int .i64 x.id, x.v] 33).alloc (.cells #[.int .i64 d.at', .int .i64 d.id, d.v] 33))
  have OY := Lib.hid (Ob.new (W.alloc (.cells #[.int .i64 x.at', .int .i64 x.id, x.v] 33)) #[.int .i64 d.at', .int .i64 d.id, d.v] 33)
  have HB := Lib.hid (((Below.refl W.heap.size W).alloc (Nat.le_refl _) (.cells #[.int .i64 x.at', .int .i64 x.id, x.v] 33)).alloc (by rw [World.size_alloc]; omega) (.cells #[.int .i64 d.at', .int .i64 d.id, d.v] 33))
  rw [World.size_alloc] at OY
  generalize (W.alloc (.cells #[.int .i64 x.at', .int .i64 x.id, x.v] 33)).alloc (.cells #[.int .i64 d.at', .int .i64 d.id, d.v] 33) = W1 at *
  obtain ⟨lx, cx, _⟩ := OX.out.blk
  obtain ⟨ly, cy, _⟩ := OY.out.blk
  have cx0 : W1.cell? ⟨W.heap.size, 0, none⟩ = some (.int .i64 x.at') := cx 0
  have cx1 : W1.cell? ⟨W.heap.size, 1, none⟩ = some (.int .i64 x.id) := cx 1
  have cy0 : W1.cell? ⟨W.heap.size + 1, 0, none⟩ = some (.int .i64 d.at') := cy 0
  have cy1 : W1.cell? ⟨W.heap.size + 1, 1, none⟩ = some (.int .i64 d.id) := cy 1
  clear cx cy
  refine wp_run (M := (fun _ => False)) (stages [([true, true, true, true, false, true, true, true, true, false, false, false, false], 4), ([false, false, false, false, false, false, false, false, false, false, false, false, false], 9), ([false, false, false, false, false, false, false, false, false, false, false, false, false], 10), ([false, false, false, false, false, false, false, false, false, false, false, false, false], 11)] [false, false, false, false, false, false, false, false, false, false, false, false, true]) (by kernel_rfl) (by kernel_rfl) ?_
  refine run_stage rfl ?_
  simp only [pickAt]
  repeat (go_big_quiet_step (fail))
  refine wpQuiet_nil ?_
  refine run_want rfl ?_
  intro A hA
  go_simp
  refine (compare_int _ _ _).mono ?_
  rintro e w' ⟨rfl, rfl⟩
  refine hA _ _ ((Kept.refl _ _)) ?_
  try simp only [Act.put, List.setIfInBounds_toArray, List.set_cons_zero, List.set_cons_succ]
  clear A hA
  refine run_stage rfl ?_
  simp only [pickAt]
  repeat (go_big_quiet_step (fail))
  refine wpQuiet_nil ?_
  refine run_want rfl ?_
  intro A hA
  go_simp
  refine (compare_int _ _ _).mono ?_
  rintro e w' ⟨rfl, rfl⟩
  refine hA _ _ ((Kept.refl _ _)) ?_
  try simp only [Act.put, List.setIfInBounds_toArray, List.set_cons_zero, List.set_cons_succ]
  clear A hA
  refine run_stage rfl ?_
  simp only [pickAt]
  repeat (go_big_quiet_step (fail))
  refine wpQuiet_nil ?_
  refine run_want rfl ?_
  intro A hA
  go_simp
  refine hA _ _ (((Kept.refl _ _).alloc _)) ?_
  try simp only [Act.put, List.setIfInBounds_toArray, List.set_cons_zero, List.set_cons_succ]
  clear A hA
  refine run_stage rfl ?_
  simp only [pickAt]
  repeat (go_big_quiet_step (fail))
  refine wpQuiet_nil ?_
  refine run_want rfl ?_
  intro A hA
  go_simp
  refine (or_int _ _ _ _ (Rd.ofRw (m := 2) (Rw.new W1.drew #[.int .i64 (cmpI x.at' d.at'), .int .i64 (cmpI x.id d.id)] 3) rfl (by decide) (by decide))).mono ?_
  rintro e w' ⟨rfl, rfl⟩
  refine hA _ _ ((Kept.refl _ _)) ?_
  try simp only [Act.put, List.setIfInBounds_toArray, List.set_cons_zero, List.set_cons_succ]
  clear A hA
  refine run_last ?_
  simp only [pickAt]
  repeat (go_big_quiet_step (fail))
  refine wpQuiet_nil ?_
  go_wp2_with fail
  go_ret
  exact ⟨rfl, HB.out.drew.alloc HB.out.size _⟩
theorem order_dus (x d : Du) (W : World) : Calls Try.prog 34 (#[.agg #[.int .i64 x.at', .int .i64 x.id, x.v], .agg #[.int .i64 d.at', .int .i64 d.id, d.v]] ++ #[]) W fun e w' => e = .returned (.int .i64 (x.cmp d)) ∧ Below W.heap.size W w' := by
  show Calls Try.prog 34 #[.agg #[.int .i64 x.at', .int .i64 x.id, x.v], .agg #[.int .i64 d.at', .int .i64 d.id, d.v]] W _
  go_enter Try.func34, Try.ntmps34
  go_wp2_with fail
  have OX := Lib.hid ((Ob.new W #[.int .i64 x.at', .int .i64 x.id, x.v] 63).alloc (.cells #[.int .i64 d.at', .int .i64 d.id, d.v] 63))
  have OY := Lib.hid (Ob.new (W.alloc (.cells #[.int .i64 x.at', .int .i64 x.id, x.v] 63)) #[.int .i64 d.at', .int .i64 d.id, d.v] 63)
  have HB := Lib.hid (((Below.refl W.heap.size W).alloc (Nat.le_refl _) (.cells #[.int .i64 x.at', .int .i64 x.id, x.v] 63)).alloc (by rw [World.size_alloc]; omega) (.cells #[.int .i64 d.at', .int .i64 d.id, d.v] 63))
  rw [World.size_alloc] at OY
  generalize (W.alloc (.cells #[.int .i64 x.at', .int .i64 x.id, x.v] 63)).alloc (.cells #[.int .i64 d.at', .int .i64 d.id, d.v] 63) = W1 at *
  obtain ⟨lx, cx, _⟩ := OX.out.blk
  obtain ⟨ly, cy, _⟩ := OY.out.blk
  have cx0 : W1.cell? ⟨W.heap.size, 0, none⟩ = some (.int .i64 x.at') := cx 0
  have cx1 : W1.cell? ⟨W.heap.size, 1, none⟩ = some (.int .i64 x.id) := cx 1
  have cy0 : W1.cell? ⟨W.heap.size + 1, 0, none⟩ = some (.int .i64 d.at') := cy 0
  have cy1 : W1.cell? ⟨W.heap.size + 1, 1, none⟩ = some (.int .i64 d.id) := cy 1
  clear cx cy
  refine wp_run (M := (fun _ => False)) (stages [([true, true, true, true, false, true, true, true, true, false, false, false, false], 4), ([false, false, false, false, false, false, false, false, false, false, false, false, false], 9), ([false, false, false, false, false, false, false, false, false, false, false, false, false], 10), ([false, false, false, false, false, false, false, false, false, false, false, false, false], 11)] [false, false, false, false, false, false, false, false, false, false, false, false, true]) (by kernel_rfl) (by kernel_rfl) ?_
  refine run_stage rfl ?_
  simp only [pickAt]
  repeat (go_big_quiet_step (fail))
  refine wpQuiet_nil ?_
  refine run_want rfl ?_
  intro A hA
  go_simp
  refine (compare_int _ _ _).mono ?_
  rintro e w' ⟨rfl, rfl⟩
  refine hA _ _ ((Kept.refl _ _)) ?_
  try simp only [Act.put, List.setIfInBounds_toArray, List.set_cons_zero, List.set_cons_succ]
  clear A hA
  refine run_stage rfl ?_
  simp only [pickAt]
  repeat (go_big_quiet_step (fail))
  refine wpQuiet_nil ?_
  refine run_want rfl ?_
  intro A hA
  go_simp
  refine (compare_int _ _ _).mono ?_
  rintro e w' ⟨rfl, rfl⟩
  refine hA _ _ ((Kept.refl _ _)) ?_
  try simp only [Act.put, List.setIfInBounds_toArray, List.set_cons_zero, List.set_cons_succ]
  clear A hA
  refine run_stage rfl ?_
  simp only [pickAt]
  repeat (go_big_quiet_step (fail))
  refine wpQuiet_nil ?_
  refine run_want rfl ?_
  intro A hA
  go_simp
  refine hA _ _ (((Kept.refl _ _).alloc _)) ?_
  try simp only [Act.put, List.setIfInBounds_toArray, List.set_cons_zero, List.set_cons_succ]
  clear A hA
  refine run_stage rfl ?_
  simp only [pickAt]
  repeat (go_big_quiet_step (fail))
  refine wpQuiet_nil ?_
  refine run_want rfl ?_
  intro A hA
  go_simp
  refine (or_int _ _ _ _ (Rd.ofRw (m := 2) (Rw.new W1.drew #[.int .i64 (cmpI x.at' d.at'), .int .i64 (cmpI x.id d.id)] 3) rfl (by decide) (by decide))).mono ?_
  rintro e w' ⟨rfl, rfl⟩
  refine hA _ _ ((Kept.refl _ _)) ?_
  try simp only [Act.put, List.setIfInBounds_toArray, List.set_cons_zero, List.set_cons_succ]
  clear A hA
  refine run_last ?_
  simp only [pickAt]
  repeat (go_big_quiet_step (fail))
  refine wpQuiet_nil ?_
  go_wp2_with fail
  go_ret
  exact ⟨rfl, HB.out.drew.alloc HB.out.size _⟩
end Go.Proofs.Ytlibnjhoggfhfaa
