/- The law WireSame (chapter 10), walked. -/
import Derived.Test.YtaddbbbdklialaaWireSm
namespace Go.Proofs.Ytaddbbbdklialaa
open Go.RowKit

def SameIs (b : Bool) (w : World) (e : Ending) (w' : World) : Prop := e = .returned (.bool b) ∧ Below w.heap.size w w'
theorem same_is {f g : Fr} {b : Bool} {w w' : World} {e : Ending} (hb : b = true ↔ f = g) (h : SamePost f g w e w') : SameIs b w e w' := by
  obtain ⟨c, rfl, hc, hw⟩ := h
  have : c = b := by
    cases b <;> cases c <;> simp_all
  rw [this]; exact ⟨rfl, hw⟩
set_option maxHeartbeats 4000000 in
theorem samelaw_any (f g : Fr) (v u : Value) (w : World) (h : Rd w 1 v f.data.length (bcells f.data)) (h' : Rd w 1 u g.data.length (bcells g.data)) : Calls Try.prog 7 #[f.val v, g.val u] w (TrueBelow w) := by
  obtain ⟨v, cp, rfl, h1, h2⟩ := h.form
  obtain ⟨u, cq, rfl, h3, h4⟩ := h'.form
  have HR := Lib.hid h
  have HS := Lib.hid h'
  clear h h'
  obtain ⟨b, HBF, HBG⟩ : ∃ b : Bool, Hid (b = true ↔ f = g) ∧ Hid (b = true ↔ g = f) := by
    by_cases he : f = g
    · exact ⟨true, Lib.hid (by simp [he]), Lib.hid (by simp [he])⟩
    · exact ⟨false, Lib.hid (by simp [he]), Lib.hid (by simp; exact fun hh => he hh.symm)⟩
  have B1 := Lib.hid ((Below.refl w.heap.size w).alloc (Nat.le_refl _) (.cells #[.int .i64 f.kind, .int .i64 f.src, .int .i64 f.dst, .int .i64 f.prio, .int .u64 f.msg, .int .i64 f.off, .int .i64 f.len, .int .i64 f.total, .int .i64 f.num, .slice v f.data.length cp] 26))
  have B2 := Lib.hid (B1.out.alloc B1.out.size (.cells #[.int .i64 g.kind, .int .i64 g.src, .int .i64 g.dst, .int .i64 g.prio, .int .u64 g.msg, .int .i64 g.off, .int .i64 g.len, .int .i64 g.total, .int .i64 g.num, .slice u g.data.length cq] 26))
  have B3 := Lib.hid (B2.out.alloc B2.out.size (.cells #[.int .i64 g.data.length] 3))
  have OF := Lib.hid (((Ob.new w #[.int .i64 f.kind, .int .i64 f.src, .int .i64 f.dst, .int .i64 f.prio, .int .u64 f.msg, .int .i64 f.off, .int .i64 f.len, .int .i64 f.total, .int .i64 f.num, .slice v f.data.length cp] 26).alloc (.cells #[.int .i64 g.kind, .int .i64 g.src, .int .i64 g.dst, .int .i64 g.prio, .int .u64 g.msg, .int .i64 g.off, .int .i64 g.len, .int .i64 g.total, .int .i64 g.num, .slice u g.data.length cq] 26)).alloc (.cells #[.int .i64 g.data.length] 3))
  have OG := Lib.hid ((Ob.new (w.alloc (.cells #[.int .i64 f.kind, .int .i64 f.src, .int .i64 f.dst, .int .i64 f.prio, .int .u64 f.msg, .int .i64 f.off, .int .i64 f.len, .int .i64 f.total, .int .i64 f.num, .slice v f.data.length cp] 26)) #[.int .i64 g.kind, .int .i64 g.src, .int .i64 g.dst, .int .i64 g.prio, .int .u64 g.msg, .int .i64 g.off, .int .i64 g.len, .int .i64 g.total, .int .i64 g.num, .slice u g.data.length cq] 26).alloc (.cells #[.int .i64 g.data.length] 3))
  have OM := Lib.hid (Ob.new ((w.alloc (.cells #[.int .i64 f.kind, .int .i64 f.src, .int .i64 f.dst, .int .i64 f.prio, .int .u64 f.msg, .int .i64 f.off, .int .i64 f.len, .int .i64 f.total, .int .i64 f.num, .slice v f.data.length cp] 26)).alloc (.cells #[.int .i64 g.kind, .int .i64 g.src, .int .i64 g.dst, .int .i64 g.prio, .int .u64 g.msg, .int .i64 g.off, .int .i64 g.len, .int .i64 g.total, .int .i64 g.num, .slice u g.data.length cq] 26)) #[.int .i64 g.data.length] 3)
  rw [World.size_alloc] at OG
  rw [World.size_alloc, World.size_alloc] at OM
  unfold Fr.val
  go_enter Try.func7, Try.ntmps7
  go_wp2_with fail
  refine (sum_two f.data.length g.data.length _ 0 _ _ (by have := OM.out.blk.2.1 0; exact this) (by omega) (by omega)).mono ?_
  rintro e w' ⟨⟨r, rfl, hr⟩, rfl⟩
  generalize ((w.alloc (.cells #[.int .i64 f.kind, .int .i64 f.src, .int .i64 f.dst, .int .i64 f.prio, .int .u64 f.msg, .int .i64 f.off, .int .i64 f.len, .int .i64 f.total, .int .i64 f.num, .slice v f.data.length cp] 26)).alloc (.cells #[.int .i64 g.kind, .int .i64 g.src, .int .i64 g.dst, .int .i64 g.prio, .int .u64 g.msg, .int .i64 g.off, .int .i64 g.len, .int .i64 g.total, .int .i64 g.num, .slice u g.data.length cq] 26)).alloc (.cells #[.int .i64 g.data.length] 3) = W at *
  by_cases hrr : r ≤ 2000
  rotate_left
  · have hr2 : 2000 < r := by omega
    clear hrr hr
    go_wp2_with fail
    refine (awake_any _).mono ?_
    rintro e w2 ⟨rfl, hb⟩
    go_wp2_with fail
    go_ret
    exact ⟨rfl, B3.out.trans (hb.mono B3.out.size)⟩
  · clear hr
    obtain ⟨lf, cf, ff⟩ := OF.out.blk
    obtain ⟨lg, cg, fg⟩ := OG.out.blk
    go_wp2_with fail
    have OF3 := Lib.hid OF.out
    have OG3 := Lib.hid OG.out
    have bb : (b == b) = true := by simp
    clear OF OG
    refine wp_run (M := (fun _ => False)) (stages [([true, true, false, true, true, false, false, false, false, false, false, false, false, false, false, false, false, false, false, false], 2), ([false, false, false, false, false, false, false, false, false, false, false, false, false, false, false, false, false, false, false, false], 5), ([false, false, false, false, false, false, true, true, true, true, false, true, true, false, false, false, false, false, false, false], 10), ([false, false, false, false, false, false, false, false, false, false, false, false, false, false, false, false, false, false, false, false], 13), ([false, false, false, false, false, false, false, false, false, false, false, false, false, false, true, true, true, false, false, false], 17)] [false, false, false, false, false, false, false, false, false, false, false, false, false, false, false, false, false, false, true, true]) (by kernel_rfl) (by kernel_rfl) ?_
    refine run_stage rfl ?_
    simp only [pickAt]
    repeat (go_big_quiet_step (fail))
    refine wpQuiet_nil ?_
    refine run_want rfl ?_
    intro A hA
    go_simp
    refine (same_any f g (.slice v f.data.length cp) (.slice u g.data.length cq) _ (HR.out.below B3.out.drew) (HS.out.below B3.out.drew)).mono ?_
    intro e w4 hs4
    obtain ⟨rfl, hb4⟩ := same_is HBF.out hs4
    have OF4 : Hid (Ob w4 w.heap.size _ _) := Lib.hid (OF3.out.drew.below hb4)
    have OG4 : Hid (Ob w4 (w.heap.size + 1) _ _) := Lib.hid (OG3.out.drew.below hb4)
    have B4 := Lib.hid (B3.out.drew.trans (hb4.mono B3.out.drew.size))
    refine hA _ _ ((Kept.of_below hb4)) ?_
    try simp only [Act.put, List.setIfInBounds_toArray, List.set_cons_zero, List.set_cons_succ]
    clear A hA
    clear hb4 hs4 lf cf ff lg cg fg
    obtain ⟨lf, cf, ff⟩ := OF4.out.blk
    obtain ⟨lg, cg, fg⟩ := OG4.out.blk
    refine run_stage rfl ?_
    simp only [pickAt]
    repeat (go_big_quiet_step (fail))
    refine wpQuiet_nil ?_
    refine run_want rfl ?_
    intro A hA
    go_simp
    refine (same_ref f g (.slice v f.data.length cp) (.slice u g.data.length cq) _ (HR.out.below B4.out) (HS.out.below B4.out)).mono ?_
    intro e w5 hs5
    obtain ⟨rfl, hb5⟩ := same_is HBF.out hs5
    have OF5 : Hid (Ob w5 w.heap.size _ _) := Lib.hid (OF4.out.below hb5)
    have OG5 : Hid (Ob w5 (w.heap.size + 1) _ _) := Lib.hid (OG4.out.below hb5)
    have B5 := Lib.hid (B4.out.trans (hb5.mono B4.out.size))
    refine hA _ _ ((Kept.of_below hb5)) ?_
    try simp only [Act.put, List.setIfInBounds_toArray, List.set_cons_zero, List.set_cons_succ]
    clear A hA
    clear hb5 hs5 lf cf ff lg cg fg
    obtain ⟨lf, cf, ff⟩ := OF5.out.blk
    obtain ⟨lg, cg, fg⟩ := OG5.out.blk
    refine run_stage rfl ?_
    simp only [pickAt]
    repeat (go_big_quiet_step (fail))
    refine wpQuiet_nil ?_
    refine run_want rfl ?_
    intro A hA
    go_simp
    refine (same_any g f (.slice u g.data.length cq) (.slice v f.data.length cp) _ (HS.out.below B5.out) (HR.out.below B5.out)).mono ?_
    intro e w6 hs6
    obtain ⟨rfl, hb6⟩ := same_is HBG.out hs6
    have OF6 : Hid (Ob w6 w.heap.size _ _) := Lib.hid (OF5.out.below hb6)
    have OG6 : Hid (Ob w6 (w.heap.size + 1) _ _) := Lib.hid (OG5.out.below hb6)
    have B6 := Lib.hid (B5.out.trans (hb6.mono B5.out.size))
    refine hA _ _ ((Kept.of_below hb6)) ?_
    try simp only [Act.put, List.setIfInBounds_toArray, List.set_cons_zero, List.set_cons_succ]
    clear A hA
    clear hb6 hs6 lf cf ff lg cg fg
    obtain ⟨lf, cf, ff⟩ := OF6.out.blk
    obtain ⟨lg, cg, fg⟩ := OG6.out.blk
    refine run_stage rfl ?_
    simp only [pickAt]
    repeat (go_big_quiet_step (fail))
    refine wpQuiet_nil ?_
    refine run_want rfl ?_
    intro A hA
    go_simp
    refine (same_any f g (.slice v f.data.length cp) (.slice u g.data.length cq) _ (HR.out.below B6.out) (HS.out.below B6.out)).mono ?_
    intro e w7 hs7
    obtain ⟨rfl, hb7⟩ := same_is HBF.out hs7
    have OF7 : Hid (Ob w7 w.heap.size _ _) := Lib.hid (OF6.out.below hb7)
    have OG7 : Hid (Ob w7 (w.heap.size + 1) _ _) := Lib.hid (OG6.out.below hb7)
    have B7 := Lib.hid (B6.out.trans (hb7.mono B6.out.size))
    refine hA _ _ ((Kept.of_below hb7)) ?_
    try simp only [Act.put, List.setIfInBounds_toArray, List.set_cons_zero, List.set_cons_succ]
    clear A hA
    clear hb7 hs7 lf cf ff lg cg fg
    obtain ⟨lf, cf, ff⟩ := OF7.out.blk
    obtain ⟨lg, cg, fg⟩ := OG7.out.blk
    refine run_stage rfl ?_
    simp only [pickAt]
    repeat (go_big_quiet_step (fail))
    refine wpQuiet_nil ?_
    refine run_want rfl ?_
    intro A hA
    go_simp
    refine (awake_any _).mono ?_
    rintro e w8 ⟨rfl, hb8⟩
    have B8 := Lib.hid (B7.out.trans (hb8.mono B7.out.size))
    refine hA _ _ ((Kept.of_below hb8)) ?_
    try simp only [Act.put, List.setIfInBounds_toArray, List.set_cons_zero, List.set_cons_succ]
    clear A hA
    refine run_last ?_
    simp only [pickAt]
    repeat (go_big_quiet_step (fail))
    refine wpQuiet_nil ?_
    go_wp2_with fail
    go_ret
    exact ⟨rfl, B8.out⟩
end Go.Proofs.Ytaddbbbdklialaa
