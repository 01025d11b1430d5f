/- The law EngineBounds, walked. -/
import Derived.Test.YtkilljdafainbaaMay
import Derived.Test.YtkilljdafainbaaA
import Derived.Test.YtkilljdafainbaaRun
namespace Go.Proofs.Ytkilljdafainbaa
open Go.RowKit

theorem info3 : (Try.prog.info? 3).map (fun i => (i.zero, i.size, i.bytes)) = some (some (.int .i64 0), 1, 8) := by kernel_rfl
theorem fold_b (l : List Int) : ∀ a : Int, 0 ≤ a → a ≤ 1125899906842624 → 0 ≤ l.foldl addI a ∧ l.foldl addI a ≤ 1125899906842624 := by
  induction l with
  | nil => intro a h1 h2; exact ⟨h1, h2⟩
  | cons x l ih => intro a _ _; exact ih _ (hold_b _).1 (hold_b _).2
theorem turns_b (m : Int) (l : List Int) : 0 ≤ turnsI m l ∧ turnsI m l ≤ 1125899906842624 := fold_b _ 2 (by decide) (by decide)
theorem addI_ge (a b : Int) (h0 : 0 ≤ a) (h1 : a ≤ 1125899906842624) : a ≤ addI a b := by
  have := hold_b b
  unfold addI; rw [hold_id a h0 h1]; unfold hold at *; omega
theorem hold_mono {a b : Int} (h : a ≤ b) : hold a ≤ hold b := by unfold hold; omega
theorem addI_mono {a b : Int} (c : Int) (h : a ≤ b) : addI a c ≤ addI b c := hold_mono (by have := hold_mono h; omega)
theorem mulI_mono (a : Int) {b c : Int} (h : b ≤ c) : mulI a b ≤ mulI a c := by
  have := Int.mul_le_mul_of_nonneg_left (hold_mono h) (hold_b a).1
  unfold mulI; omega
theorem bound_mono (c : Cfg) (l : List Int) (wait x : Int) : boundI c l wait ≤ boundI c (l ++ [x]) wait := by
  unfold boundI
  split
  · refine addI_mono _ (mulI_mono _ ?_)
    have : turnsI c.mtu (l ++ [x]) = addI (turnsI c.mtu l) (count x c.mtu) := by unfold turnsI; rw [List.map_append, List.foldl_append]; rfl
    rw [this]
    exact addI_ge _ _ (turns_b _ _).1 (turns_b _ _).2
  · exact Int.le_refl _
theorem bound_b (c : Cfg) (l : List Int) (wait : Int) : 0 ≤ boundI c l wait ∧ boundI c l wait ≤ 1125899906842624 := by
  unfold boundI
  split
  · exact hold_b _
  · omega

set_option maxRecDepth 100000 in
set_option maxHeartbeats 1000000 in
theorem bounds_big (c : Cfg) (l : List Int) (wait more : Int) (v : Value) (w : World) (h : Rd w 1 v l.length (l.map (Value.int .i64))) (hl : 100 < l.length) : Calls Try.prog 4 #[.agg c.cells, v, .int .i64 wait, .int .i64 more] w (TrueBelow w) := by
  have hm := h.maxLen
  obtain ⟨v, cp, rfl, h1, h2⟩ := h.form
  unfold Cfg.cells
  go_enter Try.func4, Try.ntmps4
  go_wp2_with (go_at_call 9; refine (awake_any _).mono ?_; rintro e w' ⟨rfl, hb⟩)
  go_ret
  exact ⟨rfl, ((Below.refl _ _).alloc (Nat.le_refl _) _).trans (hb.mono (by simp))⟩

set_option maxRecDepth 100000 in
set_option maxHeartbeats 2000000 in
theorem bounds_any (c : Cfg) (l : List Int) (wait more : Int) (v : Value) (w : World) (h : Rd w 1 v l.length (l.map (Value.int .i64))) (hl : l.length ≤ 100) : Calls Try.prog 4 #[.agg c.cells, v, .int .i64 wait, .int .i64 more] w (TrueBelow w) := by
  obtain ⟨v, cp, rfl, h1, h2⟩ := h.form
  have HR := Lib.hid h
  clear h
  have HBD := Lib.hid (bound_any c)
  have HMY := Lib.hid (may_any c)
  have hbb := bound_b c l wait
  have hbm := bound_mono c l wait more
  have HL := Lib.hid (show boundI c l wait = if okB c = true then addI (mulI (4 * c.cap + 400) (turnsI c.mtu l)) (mulI 40 wait) else 0 from rfl)
  have hokc : okB c = true ∨ okB c = false := by cases okB c <;> simp
  unfold Cfg.cells at HBD HMY ⊢
  rcases hokc with hok | hok
  · obtain ⟨b1, b2, b3, b4⟩ := okB_cap c hok
    have HW := Lib.hid (show addI (mulI (4 * c.cap + 400) (turnsI c.mtu l)) (mulI 40 wait) = boundI c l wait by unfold boundI; rw [if_pos hok])
    have HO := Lib.hid hok
    clear hok
    go_enter Try.func4, Try.ntmps4
    go_wp2_with (go_at_call 5; refine (HMY.out _).mono ?_; rintro e w1 ⟨rfl, hb1⟩; rw [HO.out])
    have HX := Lib.hid (below_heap hb1 (by simp) (heap_new w _))
    have hB : Below w.heap.size w w1 := ((Below.refl _ _).alloc (Nat.le_refl _) _).trans (hb1.mono (by simp))
    have HB := Lib.hid hB
    clear hb1 hB
    have hs1 := HB.out.size
    have HR1 := Lib.hid (HR.out.below HB.out)
    obtain ⟨lx, cx, _⟩ := blk HX.out
    go_loopw [10, 11] (fun n i wr => ∃ k : Nat, i = .int .i64 k ∧ k ≤ l.length ∧ n = .int .i64 (turnsI c.mtu (l.take k)) ∧ ∃ q, wr = w1.drewN q) (fun _ i _ => l.length - (intOf i).toNat)
    case atStart => exact ⟨0, rfl, by omega, rfl, 0, rfl⟩
    case round =>
      obtain ⟨k, rfl, hk, rfl, q, rfl⟩ := hrel
      by_cases hlt : k < l.length
      · obtain ⟨b, o, rfl, hcell⟩ := HR1.out.at k hlt
        have hsn := Lib.hid (turns_snoc c.mtu l k hlt)
        go_wp2_with fail
        go_quiet (first | (go_at_call 8; exact quietA (count_ref _ _ _)) | (go_at_call 10; exact quietA (add_ref _ _ _)) | (go_at_call 8; exact quietS (count_ref _ _ _)) | (go_at_call 10; exact quietS (add_ref _ _ _)))
        go_wp2_with fail
        go_roundw
        case rel => exact ⟨k + 1, by go_num, by omega, by rw [hsn.out], _, rfl⟩
        case measure => simp [intOf]; omega
      · have hall := Lib.hid (show turnsI c.mtu (l.take k) = turnsI c.mtu l by rw [List.take_of_length_le (by omega)])
        rw [hall.out]
        go_wp2_with fail
        refine (mul_ref _ _ _).mono ?_
        rintro e w2 ⟨rfl, rfl⟩
        go_wp2_with fail
        refine (mul_ref _ _ _).mono ?_
        rintro e w2 ⟨rfl, rfl⟩
        go_wp2_with fail
        refine (add_ref _ _ _).mono ?_
        rintro e w2 ⟨rfl, rfl⟩
        rw [HW.out]
        go_wp2_with fail
        refine (HBD.out l wait _ _ HR1.out.dn).mono ?_
        rintro e w2 ⟨rfl, hb2⟩
        have HX2 := Lib.hid (below_heap hb2 (heap_lt HX.out) HX.out)
        have HB2 := Lib.hid ((below_dn HB.out).trans (hb2.mono hs1))
        have HR2 := Lib.hid (HR.out.below HB2.out)
        have hs2 := HB2.out.size
        clear hb2 lx cx
        obtain ⟨lx, cx, _⟩ := blk HX2.out
        go_wp2_with fail
        have hn2 := not_since (heap_lt HX2.out)
        refine wp_stands (M := (Since w2.heap.size)) (by kernel_rfl) ?_
        refine st_quiet [true, true, true, true, true, false, true, false, true, false, false, true, false, true, false, false, false, false, false, false] (by kernel_rfl) ?_
        simp only [pickAt]
        repeat (go_big_quiet_step (fail))
        refine wpQuiet_nil ?_
        refine st_act2 5 9 rfl rfl (by kernel_rfl) ?_ ?_
        · refine run_want rfl ?_
          intro A hA
          go_simp
          have HK5 := Lib.hid ((Kept.refl (Since w2.heap.size) w2).drewR.alloc (.cells #[] 3))
          have H5 := Lib.hid (World.ownsRow_made (base := w2.heap.size) (size := 1) (e := 3) w2.drew #[] 0 (Nat.le_refl _) (by unfold maxLen; omega) rfl)
          have R5 := Lib.hid (HR2.out.below (((Below.refl _ _).drew).alloc (Nat.le_refl _) (.cells #[] 3)))
          have hsz5 : w2.heap.size < (w2.drew.alloc (.cells #[] 3)).heap.size := by simp
          refine hA _ _ ((Kept.refl _ _).alloc _) ?_
          clear A hA
          have e5 : (w2.alloc (.cells #[] 3)).drew = w2.drew.alloc (.cells #[] 3) := rfl
          rw [e5]
          clear e5
          generalize w2.drew.alloc (.cells #[] 3) = w5 at *
          refine st_quiet [false, false, false, false, false, false, false, false, false, false, false, false, false, false, false, false, false, false, false, false] (by kernel_rfl) ?_
          simp only [pickAt]
          repeat (go_big_quiet_step (fail))
          refine wpQuiet_nil ?_
          refine st_act2 7 9 rfl rfl (by kernel_rfl) ?_ ?_
          · refine run_want rfl ?_
            intro A hA
            refine wp_appS _ _ 32 (by rfl) info3 Try.underlying32 rfl (by decide) H5.out R5.out (by rfl) (by rfl) (by simp [Value.oneCell']) (by omega) HK5.out.size ?_
            intro v7 w7 ho7 hg7
            have HK7 := Lib.hid (HK5.out.trans (Kept.of_grown hg7 (fun b hb => (H5.out.lt b hb).1)))
            have H7 := Lib.hid (show w7.ownsRow w2.heap.size 3 1 v7 l.length (l.map (Value.int .i64)) by simpa using ho7)
            refine hA _ _ (Kept.of_grown hg7 (fun b hb => (H5.out.lt b hb).1)) ?_
            clear A hA
            clear ho7 hg7
            refine st_quiet [false, false, false, false, false, false, false, false, false, false, false, false, false, false, false, false, false, false, false, false] (by kernel_rfl) ?_
            simp only [pickAt]
            repeat (go_big_quiet_step (fail))
            refine wpQuiet_nil ?_
            refine st_act 9 rfl (by kernel_rfl) ?_
            refine run_want rfl ?_
            intro A hA
            go_simp
            have R9 := Lib.hid (show Rd (w7.alloc (.cells #[.int .i64 more] 3)) 1 (.slice (some ⟨w7.heap.size, 0, none⟩) 1 1) 1 [.int .i64 more] from rdInts1 rfl)
            have H7' := Lib.hid (H7.out.alloc (.cells #[.int .i64 more] 3))
            have HK := Lib.hid (HK7.out.alloc (.cells #[.int .i64 more] 3))
            refine hA _ _ ((Kept.refl _ _).alloc _) ?_
            clear A hA
            refine st_quiet [false, false, false, false, false, false, false, false, false, false, false, false, false, false, false, false, false, false, false, false] (by kernel_rfl) ?_
            simp only [pickAt]
            repeat (go_big_quiet_step (fail))
            refine wpQuiet_nil ?_
            refine st_act 10 rfl (by kernel_rfl) ?_
            refine run_want rfl ?_
            intro A hA
            refine wp_appS _ _ 32 (by rfl) info3 Try.underlying32 rfl (by decide) H7'.out R9.out (by rfl) (by rfl) (by simp [Value.oneCell']) (by omega) HK.out.size ?_
            intro v10 w10 ho10 hg10
            have HK10 := Lib.hid (HK.out.trans (Kept.of_grown hg10 (fun b hb => (H7'.out.lt b hb).1)))
            have H10 := Lib.hid (Rd.of_own ho10)
            refine hA _ _ (Kept.of_grown hg10 (fun b hb => (H7'.out.lt b hb).1)) ?_
            clear A hA
            clear ho10 hg10
            refine st_quiet [false, false, false, false, false, false, false, false, false, false, false, false, false, false, false, false, false, false, false, false] (by kernel_rfl) ?_
            simp only [pickAt]
            repeat (go_big_quiet_step (fail))
            refine wpQuiet_nil ?_
            refine st_act 12 rfl (by kernel_rfl) ?_
            refine run_want rfl ?_
            intro A hA
            go_simp
            refine (HBD.out (l ++ [more]) wait _ _ (by have := H10.out; simpa using this)).mono ?_
            rintro e w12 ⟨rfl, hb12⟩
            have HK12 := Lib.hid (HK10.out.trans (Kept.of_below hb12))
            refine hA _ _ (Kept.of_below hb12) ?_
            clear A hA
            clear hb12
            refine st_quiet [false, false, false, false, false, false, false, false, false, false, false, false, false, false, true, true, true, false, false, false] (by kernel_rfl) ?_
            simp only [pickAt]
            repeat (go_big_quiet_step (fail))
            refine wpQuiet_nil ?_
            refine st_act 17 rfl (by kernel_rfl) ?_
            refine run_want rfl ?_
            intro A hA
            go_simp
            refine (awake_any _).mono ?_
            rintro e w17 ⟨rfl, hb17⟩
            have HK17 := Lib.hid (HK12.out.trans (Kept.of_below hb17))
            refine hA _ _ (Kept.of_below hb17) ?_
            clear A hA
            clear hb17
            refine st_quiet [false, false, false, false, false, false, false, false, false, false, false, false, false, false, false, false, false, false, true, true] (by kernel_rfl) ?_
            simp only [pickAt]
            repeat (go_big_quiet_step (fail))
            refine wpQuiet_nil ?_
            refine st_done (by kernel_rfl) ?_
            go_wp2
            go_ret
            exact ⟨rfl, HB2.out.trans ((HK17.out.since (Nat.le_refl _)).mono hs2)⟩
          · refine run_want rfl ?_
            intro A hA
            go_simp
            have R9 := Lib.hid (show Rd (w5.alloc (.cells #[.int .i64 more] 3)) 1 (.slice (some ⟨w5.heap.size, 0, none⟩) 1 1) 1 [.int .i64 more] from rdInts1 rfl)
            have H5' := Lib.hid (H5.out.alloc (.cells #[.int .i64 more] 3))
            have R5' := Lib.hid (R5.out.alloc (.cells #[.int .i64 more] 3))
            have HK5' := Lib.hid (HK5.out.alloc (.cells #[.int .i64 more] 3))
            refine hA _ _ ((Kept.refl _ _).alloc _) ?_
            clear A hA
            refine st_quiet [false, false, false, false, false, false, false, false, false, false, false, false, false, false, false, false, false, false, false, false] (by kernel_rfl) ?_
            simp only [pickAt]
            repeat (go_big_quiet_step (fail))
            refine wpQuiet_nil ?_
            refine st_act 7 rfl (by kernel_rfl) ?_
            refine run_want rfl ?_
            intro A hA
            refine wp_appS _ _ 32 (by rfl) info3 Try.underlying32 rfl (by decide) H5'.out R5'.out (by rfl) (by rfl) (by simp [Value.oneCell']) (by omega) HK5'.out.size ?_
            intro v7 w7 ho7 hg7
            have HK7 := Lib.hid (HK5'.out.trans (Kept.of_grown hg7 (fun b hb => (H5'.out.lt b hb).1)))
            have H7 := Lib.hid (show w7.ownsRow w2.heap.size 3 1 v7 l.length (l.map (Value.int .i64)) by simpa using ho7)
            have R9' := Lib.hid (R9.out.kept (Kept.of_grown (M := fun b => some b = some w2.heap.size) hg7 (fun b hb => hb.symm)) (fun a _ _ e hh => by cases e; have h9 : w5.heap.size = w2.heap.size := Option.some.inj hh; omega))
            have HK := HK7
            refine hA _ _ (Kept.of_grown hg7 (fun b hb => (H5'.out.lt b hb).1)) ?_
            clear A hA
            clear ho7 hg7
            refine st_quiet [false, false, false, false, false, false, false, false, false, false, false, false, false, false, false, false, false, false, false, false] (by kernel_rfl) ?_
            simp only [pickAt]
            repeat (go_big_quiet_step (fail))
            refine wpQuiet_nil ?_
            refine st_act 10 rfl (by kernel_rfl) ?_
            refine run_want rfl ?_
            intro A hA
            refine wp_appS _ _ 32 (by rfl) info3 Try.underlying32 rfl (by decide) H7.out R9'.out (by rfl) (by rfl) (by simp [Value.oneCell']) (by omega) HK.out.size ?_
            intro v10 w10 ho10 hg10
            have HK10 := Lib.hid (HK.out.trans (Kept.of_grown hg10 (fun b hb => (H7.out.lt b hb).1)))
            have H10 := Lib.hid (Rd.of_own ho10)
            refine hA _ _ (Kept.of_grown hg10 (fun b hb => (H7.out.lt b hb).1)) ?_
            clear A hA
            clear ho10 hg10
            refine st_quiet [false, false, false, false, false, false, false, false, false, false, false, false, false, false, false, false, false, false, false, false] (by kernel_rfl) ?_
            simp only [pickAt]
            repeat (go_big_quiet_step (fail))
            refine wpQuiet_nil ?_
            refine st_act 12 rfl (by kernel_rfl) ?_
            refine run_want rfl ?_
            intro A hA
            go_simp
            refine (HBD.out (l ++ [more]) wait _ _ (by have := H10.out; simpa using this)).mono ?_
            rintro e w12 ⟨rfl, hb12⟩
            have HK12 := Lib.hid (HK10.out.trans (Kept.of_below hb12))
            refine hA _ _ (Kept.of_below hb12) ?_
            clear A hA
            clear hb12
            refine st_quiet [false, false, false, false, false, false, false, false, false, false, false, false, false, false, true, true, true, false, false, false] (by kernel_rfl) ?_
            simp only [pickAt]
            repeat (go_big_quiet_step (fail))
            refine wpQuiet_nil ?_
            refine st_act 17 rfl (by kernel_rfl) ?_
            refine run_want rfl ?_
            intro A hA
            go_simp
            refine (awake_any _).mono ?_
            rintro e w17 ⟨rfl, hb17⟩
            have HK17 := Lib.hid (HK12.out.trans (Kept.of_below hb17))
            refine hA _ _ (Kept.of_below hb17) ?_
            clear A hA
            clear hb17
            refine st_quiet [false, false, false, false, false, false, false, false, false, false, false, false, false, false, false, false, false, false, true, true] (by kernel_rfl) ?_
            simp only [pickAt]
            repeat (go_big_quiet_step (fail))
            refine wpQuiet_nil ?_
            refine st_done (by kernel_rfl) ?_
            go_wp2
            go_ret
            exact ⟨rfl, HB2.out.trans ((HK17.out.since (Nat.le_refl _)).mono hs2)⟩
        · refine run_want rfl ?_
          intro A hA
          go_simp
          have R9 := Lib.hid (show Rd (w2.drew.alloc (.cells #[.int .i64 more] 3)) 1 (.slice (some ⟨w2.drew.heap.size, 0, none⟩) 1 1) 1 [.int .i64 more] from rdInts1 rfl)
          have HK9 := Lib.hid ((Kept.refl (Since w2.heap.size) w2).drewR.alloc (.cells #[.int .i64 more] 3))
          have RT := Lib.hid (HR2.out.below (((Below.refl _ _).drew).alloc (Nat.le_refl _) (.cells #[.int .i64 more] 3)))
          have hsz5 : w2.heap.size < (w2.drew.alloc (.cells #[.int .i64 more] 3)).heap.size := by simp
          refine hA _ _ ((Kept.refl _ _).alloc _) ?_
          clear A hA
          have e5 : (w2.alloc (.cells #[.int .i64 more] 3)).drew = w2.drew.alloc (.cells #[.int .i64 more] 3) := rfl
          rw [e5]
          clear e5
          generalize w2.drew.alloc (.cells #[.int .i64 more] 3) = w9 at *
          refine st_quiet [false, false, false, false, false, false, false, false, false, false, false, false, false, false, false, false, false, false, false, false] (by kernel_rfl) ?_
          simp only [pickAt]
          repeat (go_big_quiet_step (fail))
          refine wpQuiet_nil ?_
          refine st_act 5 rfl (by kernel_rfl) ?_
          refine run_want rfl ?_
          intro A hA
          go_simp
          have HK5 := Lib.hid (HK9.out.alloc (.cells #[] 3))
          have H5 := Lib.hid (World.ownsRow_made (base := w2.heap.size) (size := 1) (e := 3) w9 #[] 0 (by omega) (by unfold maxLen; omega) rfl)
          have R5 := Lib.hid (RT.out.alloc (.cells #[] 3))
          have R9' := Lib.hid (R9.out.alloc (.cells #[] 3))
          refine hA _ _ ((Kept.refl _ _).alloc _) ?_
          clear A hA
          refine st_quiet [false, false, false, false, false, false, false, false, false, false, false, false, false, false, false, false, false, false, false, false] (by kernel_rfl) ?_
          simp only [pickAt]
          repeat (go_big_quiet_step (fail))
          refine wpQuiet_nil ?_
          refine st_act 7 rfl (by kernel_rfl) ?_
          refine run_want rfl ?_
          intro A hA
          refine wp_appS _ _ 32 (by rfl) info3 Try.underlying32 rfl (by decide) H5.out R5.out (by rfl) (by rfl) (by simp [Value.oneCell']) (by omega) HK5.out.size ?_
          intro v7 w7 ho7 hg7
          have HK7 := Lib.hid (HK5.out.trans (Kept.of_grown hg7 (fun b hb => (H5.out.lt b hb).1)))
          have H7 := Lib.hid (show w7.ownsRow w2.heap.size 3 1 v7 l.length (l.map (Value.int .i64)) by simpa using ho7)
          have R9'' := Lib.hid (R9'.out.kept (Kept.of_grown (M := fun b => some b = some w9.heap.size) hg7 (fun b hb => hb.symm)) (fun a _ _ e hh => by cases e; have h9 : w2.heap.size = w9.heap.size := Option.some.inj hh; omega))
          have HK := HK7
          refine hA _ _ (Kept.of_grown hg7 (fun b hb => (H5.out.lt b hb).1)) ?_
          clear A hA
          clear ho7 hg7
          refine st_quiet [false, false, false, false, false, false, false, false, false, false, false, false, false, false, false, false, false, false, false, false] (by kernel_rfl) ?_
          simp only [pickAt]
          repeat (go_big_quiet_step (fail))
          refine wpQuiet_nil ?_
          refine st_act 10 rfl (by kernel_rfl) ?_
          refine run_want rfl ?_
          intro A hA
          refine wp_appS _ _ 32 (by rfl) info3 Try.underlying32 rfl (by decide) H7.out R9''.out (by rfl) (by rfl) (by simp [Value.oneCell']) (by omega) HK.out.size ?_
          intro v10 w10 ho10 hg10
          have HK10 := Lib.hid (HK.out.trans (Kept.of_grown hg10 (fun b hb => (H7.out.lt b hb).1)))
          have H10 := Lib.hid (Rd.of_own ho10)
          refine hA _ _ (Kept.of_grown hg10 (fun b hb => (H7.out.lt b hb).1)) ?_
          clear A hA
          clear ho10 hg10
          refine st_quiet [false, false, false, false, false, false, false, false, false, false, false, false, false, false, false, false, false, false, false, false] (by kernel_rfl) ?_
          simp only [pickAt]
          repeat (go_big_quiet_step (fail))
          refine wpQuiet_nil ?_
          refine st_act 12 rfl (by kernel_rfl) ?_
          refine run_want rfl ?_
          intro A hA
          go_simp
          refine (HBD.out (l ++ [more]) wait _ _ (by have := H10.out; simpa using this)).mono ?_
          rintro e w12 ⟨rfl, hb12⟩
          have HK12 := Lib.hid (HK10.out.trans (Kept.of_below hb12))
          refine hA _ _ (Kept.of_below hb12) ?_
          clear A hA
          clear hb12
          refine st_quiet [false, false, false, false, false, false, false, false, false, false, false, false, false, false, true, true, true, false, false, false] (by kernel_rfl) ?_
          simp only [pickAt]
          repeat (go_big_quiet_step (fail))
          refine wpQuiet_nil ?_
          refine st_act 17 rfl (by kernel_rfl) ?_
          refine run_want rfl ?_
          intro A hA
          go_simp
          refine (awake_any _).mono ?_
          rintro e w17 ⟨rfl, hb17⟩
          have HK17 := Lib.hid (HK12.out.trans (Kept.of_below hb17))
          refine hA _ _ (Kept.of_below hb17) ?_
          clear A hA
          clear hb17
          refine st_quiet [false, false, false, false, false, false, false, false, false, false, false, false, false, false, false, false, false, false, true, true] (by kernel_rfl) ?_
          simp only [pickAt]
          repeat (go_big_quiet_step (fail))
          refine wpQuiet_nil ?_
          refine st_done (by kernel_rfl) ?_
          go_wp2
          go_ret
          exact ⟨rfl, HB2.out.trans ((HK17.out.since (Nat.le_refl _)).mono hs2)⟩
  · have HZ := Lib.hid (show boundI c l wait = 0 by unfold boundI; rw [hok]; rfl)
    have hbz := (bound_b c (l ++ [more]) wait).1
    have HO := Lib.hid hok
    clear hok hbb hbm
    go_enter Try.func4, Try.ntmps4
    go_wp2_with fail
    refine (HMY.out _).mono ?_
    rintro e w1 ⟨rfl, hb1⟩
    rw [HO.out]
    have HX := Lib.hid (below_heap hb1 (by simp) (heap_new w _))
    have HB := Lib.hid (((Below.refl _ _).alloc (Nat.le_refl _) _).trans (hb1.mono (by simp)) : Below w.heap.size w w1)
    clear hb1
    have hs1 := HB.out.size
    have HR1 := Lib.hid (HR.out.below HB.out)
    obtain ⟨lx, cx, _⟩ := blk HX.out
    go_wp2_with fail
    refine (HBD.out l wait _ _ HR1.out).mono ?_
    rintro e w2 ⟨rfl, hb2⟩
    rw [HZ.out]
    have HX2 := Lib.hid (below_heap hb2 (heap_lt HX.out) HX.out)
    have HB2 := Lib.hid (HB.out.trans (hb2.mono hs1))
    have HR2 := Lib.hid (HR.out.below HB2.out)
    have hs2 := HB2.out.size
    clear hb2 lx cx
    obtain ⟨lx, cx, _⟩ := blk HX2.out
    go_wp2_with fail
    have hn2 := not_since (heap_lt HX2.out)
    refine wp_stands (M := (Since w2.heap.size)) (by kernel_rfl) ?_
    refine st_quiet [true, true, true, true, true, false, true, false, true, false, false, true, false, true, false, false, false, false, false, false] (by kernel_rfl) ?_
    simp only [pickAt]
    repeat (go_big_quiet_step (fail))
    refine wpQuiet_nil ?_
    refine st_act2 5 9 rfl rfl (by kernel_rfl) ?_ ?_
    · refine run_want rfl ?_
      intro A hA
      go_simp
      have HK5 := Lib.hid ((Kept.refl (Since w2.heap.size) w2).drewR.alloc (.cells #[] 3))
      have H5 := Lib.hid (World.ownsRow_made (base := w2.heap.size) (size := 1) (e := 3) w2.drew #[] 0 (Nat.le_refl _) (by unfold maxLen; omega) rfl)
      have R5 := Lib.hid (HR2.out.below (((Below.refl _ _).drew).alloc (Nat.le_refl _) (.cells #[] 3)))
      have hsz5 : w2.heap.size < (w2.drew.alloc (.cells #[] 3)).heap.size := by simp
      refine hA _ _ ((Kept.refl _ _).alloc _) ?_
      clear A hA
      have e5 : (w2.alloc (.cells #[] 3)).drew = w2.drew.alloc (.cells #[] 3) := rfl
      rw [e5]
      clear e5
      generalize w2.drew.alloc (.cells #[] 3) = w5 at *
      refine st_quiet [false, false, false, false, false, false, false, false, false, false, false, false, false, false, false, false, false, false, false, false] (by kernel_rfl) ?_
      simp only [pickAt]
      repeat (go_big_quiet_step (fail))
      refine wpQuiet_nil ?_
      refine st_act2 7 9 rfl rfl (by kernel_rfl) ?_ ?_
      · refine run_want rfl ?_
        intro A hA
        refine wp_appS _ _ 32 (by rfl) info3 Try.underlying32 rfl (by decide) H5.out R5.out (by rfl) (by rfl) (by simp [Value.oneCell']) (by omega) HK5.out.size ?_
        intro v7 w7 ho7 hg7
        have HK7 := Lib.hid (HK5.out.trans (Kept.of_grown hg7 (fun b hb => (H5.out.lt b hb).1)))
        have H7 := Lib.hid (show w7.ownsRow w2.heap.size 3 1 v7 l.length (l.map (Value.int .i64)) by simpa using ho7)
        refine hA _ _ (Kept.of_grown hg7 (fun b hb => (H5.out.lt b hb).1)) ?_
        clear A hA
        clear ho7 hg7
        refine st_quiet [false, false, false, false, false, false, false, false, false, false, false, false, false, false, false, false, false, false, false, false] (by kernel_rfl) ?_
        simp only [pickAt]
        repeat (go_big_quiet_step (fail))
        refine wpQuiet_nil ?_
        refine st_act 9 rfl (by kernel_rfl) ?_
        refine run_want rfl ?_
        intro A hA
        go_simp
        have R9 := Lib.hid (show Rd (w7.alloc (.cells #[.int .i64 more] 3)) 1 (.slice (some ⟨w7.heap.size, 0, none⟩) 1 1) 1 [.int .i64 more] from rdInts1 rfl)
        have H7' := Lib.hid (H7.out.alloc (.cells #[.int .i64 more] 3))
        have HK := Lib.hid (HK7.out.alloc (.cells #[.int .i64 more] 3))
        refine hA _ _ ((Kept.refl _ _).alloc _) ?_
        clear A hA
        refine st_quiet [false, false, false, false, false, false, false, false, false, false, false, false, false, false, false, false, false, false, false, false] (by kernel_rfl) ?_
        simp only [pickAt]
        repeat (go_big_quiet_step (fail))
        refine wpQuiet_nil ?_
        refine st_act 10 rfl (by kernel_rfl) ?_
        refine run_want rfl ?_
        intro A hA
        refine wp_appS _ _ 32 (by rfl) info3 Try.underlying32 rfl (by decide) H7'.out R9.out (by rfl) (by rfl) (by simp [Value.oneCell']) (by omega) HK.out.size ?_
        intro v10 w10 ho10 hg10
        have HK10 := Lib.hid (HK.out.trans (Kept.of_grown hg10 (fun b hb => (H7'.out.lt b hb).1)))
        have H10 := Lib.hid (Rd.of_own ho10)
        refine hA _ _ (Kept.of_grown hg10 (fun b hb => (H7'.out.lt b hb).1)) ?_
        clear A hA
        clear ho10 hg10
        refine st_quiet [false, false, false, false, false, false, false, false, false, false, false, false, false, false, false, false, false, false, false, false] (by kernel_rfl) ?_
        simp only [pickAt]
        repeat (go_big_quiet_step (fail))
        refine wpQuiet_nil ?_
        refine st_act 12 rfl (by kernel_rfl) ?_
        refine run_want rfl ?_
        intro A hA
        go_simp
        refine (HBD.out (l ++ [more]) wait _ _ (by have := H10.out; simpa using this)).mono ?_
        rintro e w12 ⟨rfl, hb12⟩
        have HK12 := Lib.hid (HK10.out.trans (Kept.of_below hb12))
        refine hA _ _ (Kept.of_below hb12) ?_
        clear A hA
        clear hb12
        refine st_quiet [false, false, false, false, false, false, false, false, false, false, false, false, false, false, true, true, true, false, false, false] (by kernel_rfl) ?_
        simp only [pickAt]
        repeat (go_big_quiet_step (fail))
        refine wpQuiet_nil ?_
        refine st_act 17 rfl (by kernel_rfl) ?_
        refine run_want rfl ?_
        intro A hA
        go_simp
        refine (awake_any _).mono ?_
        rintro e w17 ⟨rfl, hb17⟩
        have HK17 := Lib.hid (HK12.out.trans (Kept.of_below hb17))
        refine hA _ _ (Kept.of_below hb17) ?_
        clear A hA
        clear hb17
        refine st_quiet [false, false, false, false, false, false, false, false, false, false, false, false, false, false, false, false, false, false, true, true] (by kernel_rfl) ?_
        simp only [pickAt]
        repeat (go_big_quiet_step (fail))
        refine wpQuiet_nil ?_
        refine st_done (by kernel_rfl) ?_
        go_wp2
        go_ret
        exact ⟨rfl, HB2.out.trans ((HK17.out.since (Nat.le_refl _)).mono hs2)⟩
      · refine run_want rfl ?_
        intro A hA
        go_simp
        have R9 := Lib.hid (show Rd (w5.alloc (.cells #[.int .i64 more] 3)) 1 (.slice (some ⟨w5.heap.size, 0, none⟩) 1 1) 1 [.int .i64 more] from rdInts1 rfl)
        have H5' := Lib.hid (H5.out.alloc (.cells #[.int .i64 more] 3))
        have R5' := Lib.hid (R5.out.alloc (.cells #[.int .i64 more] 3))
        have HK5' := Lib.hid (HK5.out.alloc (.cells #[.int .i64 more] 3))
        refine hA _ _ ((Kept.refl _ _).alloc _) ?_
        clear A hA
        refine st_quiet [false, false, false, false, false, false, false, false, false, false, false, false, false, false, false, false, false, false, false, false] (by kernel_rfl) ?_
        simp only [pickAt]
        repeat (go_big_quiet_step (fail))
        refine wpQuiet_nil ?_
        refine st_act 7 rfl (by kernel_rfl) ?_
        refine run_want rfl ?_
        intro A hA
        refine wp_appS _ _ 32 (by rfl) info3 Try.underlying32 rfl (by decide) H5'.out R5'.out (by rfl) (by rfl) (by simp [Value.oneCell']) (by omega) HK5'.out.size ?_
        intro v7 w7 ho7 hg7
        have HK7 := Lib.hid (HK5'.out.trans (Kept.of_grown hg7 (fun b hb => (H5'.out.lt b hb).1)))
        have H7 := Lib.hid (show w7.ownsRow w2.heap.size 3 1 v7 l.length (l.map (Value.int .i64)) by simpa using ho7)
        have R9' := Lib.hid (R9.out.kept (Kept.of_grown (M := fun b => some b = some w2.heap.size) hg7 (fun b hb => hb.symm)) (fun a _ _ e hh => by cases e; have h9 : w5.heap.size = w2.heap.size := Option.some.inj hh; omega))
        have HK := HK7
        refine hA _ _ (Kept.of_grown hg7 (fun b hb => (H5'.out.lt b hb).1)) ?_
        clear A hA
        clear ho7 hg7
        refine st_quiet [false, false, false, false, false, false, false, false, false, false, false, false, false, false, false, false, false, false, false, false] (by kernel_rfl) ?_
        simp only [pickAt]
        repeat (go_big_quiet_step (fail))
        refine wpQuiet_nil ?_
        refine st_act 10 rfl (by kernel_rfl) ?_
        refine run_want rfl ?_
        intro A hA
        refine wp_appS _ _ 32 (by rfl) info3 Try.underlying32 rfl (by decide) H7.out R9'.out (by rfl) (by rfl) (by simp [Value.oneCell']) (by omega) HK.out.size ?_
        intro v10 w10 ho10 hg10
        have HK10 := Lib.hid (HK.out.trans (Kept.of_grown hg10 (fun b hb => (H7.out.lt b hb).1)))
        have H10 := Lib.hid (Rd.of_own ho10)
        refine hA _ _ (Kept.of_grown hg10 (fun b hb => (H7.out.lt b hb).1)) ?_
        clear A hA
        clear ho10 hg10
        refine st_quiet [false, false, false, false, false, false, false, false, false, false, false, false, false, false, false, false, false, false, false, false] (by kernel_rfl) ?_
        simp only [pickAt]
        repeat (go_big_quiet_step (fail))
        refine wpQuiet_nil ?_
        refine st_act 12 rfl (by kernel_rfl) ?_
        refine run_want rfl ?_
        intro A hA
        go_simp
        refine (HBD.out (l ++ [more]) wait _ _ (by have := H10.out; simpa using this)).mono ?_
        rintro e w12 ⟨rfl, hb12⟩
        have HK12 := Lib.hid (HK10.out.trans (Kept.of_below hb12))
        refine hA _ _ (Kept.of_below hb12) ?_
        clear A hA
        clear hb12
        refine st_quiet [false, false, false, false, false, false, false, false, false, false, false, false, false, false, true, true, true, false, false, false] (by kernel_rfl) ?_
        simp only [pickAt]
        repeat (go_big_quiet_step (fail))
        refine wpQuiet_nil ?_
        refine st_act 17 rfl (by kernel_rfl) ?_
        refine run_want rfl ?_
        intro A hA
        go_simp
        refine (awake_any _).mono ?_
        rintro e w17 ⟨rfl, hb17⟩
        have HK17 := Lib.hid (HK12.out.trans (Kept.of_below hb17))
        refine hA _ _ (Kept.of_below hb17) ?_
        clear A hA
        clear hb17
        refine st_quiet [false, false, false, false, false, false, false, false, false, false, false, false, false, false, false, false, false, false, true, true] (by kernel_rfl) ?_
        simp only [pickAt]
        repeat (go_big_quiet_step (fail))
        refine wpQuiet_nil ?_
        refine st_done (by kernel_rfl) ?_
        go_wp2
        go_ret
        exact ⟨rfl, HB2.out.trans ((HK17.out.since (Nat.le_refl _)).mono hs2)⟩
    · refine run_want rfl ?_
      intro A hA
      go_simp
      have R9 := Lib.hid (show Rd (w2.drew.alloc (.cells #[.int .i64 more] 3)) 1 (.slice (some ⟨w2.drew.heap.size, 0, none⟩) 1 1) 1 [.int .i64 more] from rdInts1 rfl)
      have HK9 := Lib.hid ((Kept.refl (Since w2.heap.size) w2).drewR.alloc (.cells #[.int .i64 more] 3))
      have RT := Lib.hid (HR2.out.below (((Below.refl _ _).drew).alloc (Nat.le_refl _) (.cells #[.int .i64 more] 3)))
      have hsz5 : w2.heap.size < (w2.drew.alloc (.cells #[.int .i64 more] 3)).heap.size := by simp
      refine hA _ _ ((Kept.refl _ _).alloc _) ?_
      clear A hA
      have e5 : (w2.alloc (.cells #[.int .i64 more] 3)).drew = w2.drew.alloc (.cells #[.int .i64 more] 3) := rfl
      rw [e5]
      clear e5
      generalize w2.drew.alloc (.cells #[.int .i64 more] 3) = w9 at *
      refine st_quiet [false, false, false, false, false, false, false, false, false, false, false, false, false, false, false, false, false, false, false, false] (by kernel_rfl) ?_
      simp only [pickAt]
      repeat (go_big_quiet_step (fail))
      refine wpQuiet_nil ?_
      refine st_act 5 rfl (by kernel_rfl) ?_
      refine run_want rfl ?_
      intro A hA
      go_simp
      have HK5 := Lib.hid (HK9.out.alloc (.cells #[] 3))
      have H5 := Lib.hid (World.ownsRow_made (base := w2.heap.size) (size := 1) (e := 3) w9 #[] 0 (by omega) (by unfold maxLen; omega) rfl)
      have R5 := Lib.hid (RT.out.alloc (.cells #[] 3))
      have R9' := Lib.hid (R9.out.alloc (.cells #[] 3))
      refine hA _ _ ((Kept.refl _ _).alloc _) ?_
      clear A hA
      refine st_quiet [false, false, false, false, false, false, false, false, false, false, false, false, false, false, false, false, false, false, false, false] (by kernel_rfl) ?_
      simp only [pickAt]
      repeat (go_big_quiet_step (fail))
      refine wpQuiet_nil ?_
      refine st_act 7 rfl (by kernel_rfl) ?_
      refine run_want rfl ?_
      intro A hA
      refine wp_appS _ _ 32 (by rfl) info3 Try.underlying32 rfl (by decide) H5.out R5.out (by rfl) (by rfl) (by simp [Value.oneCell']) (by omega) HK5.out.size ?_
      intro v7 w7 ho7 hg7
      have HK7 := Lib.hid (HK5.out.trans (Kept.of_grown hg7 (fun b hb => (H5.out.lt b hb).1)))
      have H7 := Lib.hid (show w7.ownsRow w2.heap.size 3 1 v7 l.length (l.map (Value.int .i64)) by simpa using ho7)
      have R9'' := Lib.hid (R9'.out.kept (Kept.of_grown (M := fun b => some b = some w9.heap.size) hg7 (fun b hb => hb.symm)) (fun a _ _ e hh => by cases e; have h9 : w2.heap.size = w9.heap.size := Option.some.inj hh; omega))
      have HK := HK7
      refine hA _ _ (Kept.of_grown hg7 (fun b hb => (H5.out.lt b hb).1)) ?_
      clear A hA
      clear ho7 hg7
      refine st_quiet [false, false, false, false, false, false, false, false, false, false, false, false, false, false, false, false, false, false, false, false] (by kernel_rfl) ?_
      simp only [pickAt]
      repeat (go_big_quiet_step (fail))
      refine wpQuiet_nil ?_
      refine st_act 10 rfl (by kernel_rfl) ?_
      refine run_want rfl ?_
      intro A hA
      refine wp_appS _ _ 32 (by rfl) info3 Try.underlying32 rfl (by decide) H7.out R9''.out (by rfl) (by rfl) (by simp [Value.oneCell']) (by omega) HK.out.size ?_
      intro v10 w10 ho10 hg10
      have HK10 := Lib.hid (HK.out.trans (Kept.of_grown hg10 (fun b hb => (H7.out.lt b hb).1)))
      have H10 := Lib.hid (Rd.of_own ho10)
      refine hA _ _ (Kept.of_grown hg10 (fun b hb => (H7.out.lt b hb).1)) ?_
      clear A hA
      clear ho10 hg10
      refine st_quiet [false, false, false, false, false, false, false, false, false, false, false, false, false, false, false, false, false, false, false, false] (by kernel_rfl) ?_
      simp only [pickAt]
      repeat (go_big_quiet_step (fail))
      refine wpQuiet_nil ?_
      refine st_act 12 rfl (by kernel_rfl) ?_
      refine run_want rfl ?_
      intro A hA
      go_simp
      refine (HBD.out (l ++ [more]) wait _ _ (by have := H10.out; simpa using this)).mono ?_
      rintro e w12 ⟨rfl, hb12⟩
      have HK12 := Lib.hid (HK10.out.trans (Kept.of_below hb12))
      refine hA _ _ (Kept.of_below hb12) ?_
      clear A hA
      clear hb12
      refine st_quiet [false, false, false, false, false, false, false, false, false, false, false, false, false, false, true, true, true, false, false, false] (by kernel_rfl) ?_
      simp only [pickAt]
      repeat (go_big_quiet_step (fail))
      refine wpQuiet_nil ?_
      refine st_act 17 rfl (by kernel_rfl) ?_
      refine run_want rfl ?_
      intro A hA
      go_simp
      refine (awake_any _).mono ?_
      rintro e w17 ⟨rfl, hb17⟩
      have HK17 := Lib.hid (HK12.out.trans (Kept.of_below hb17))
      refine hA _ _ (Kept.of_below hb17) ?_
      clear A hA
      clear hb17
      refine st_quiet [false, false, false, false, false, false, false, false, false, false, false, false, false, false, false, false, false, false, true, true] (by kernel_rfl) ?_
      simp only [pickAt]
      repeat (go_big_quiet_step (fail))
      refine wpQuiet_nil ?_
      refine st_done (by kernel_rfl) ?_
      go_wp2
      go_ret
      exact ⟨rfl, HB2.out.trans ((HK17.out.since (Nat.le_refl _)).mono hs2)⟩
theorem bounds_all (c : Cfg) (l : List Int) (wait more : Int) (v : Value) (w : World) (h : Rd w 1 v l.length (l.map (Value.int .i64))) : Calls Try.prog 4 #[.agg c.cells, v, .int .i64 wait, .int .i64 more] w (TrueBelow w) := by
  by_cases hl : l.length ≤ 100
  · exact bounds_any c l wait more v w h hl
  · exact bounds_big c l wait more v w h (by omega)
end Go.Proofs.Ytkilljdafainbaa
