/- The law WireWrites (chapter 10), walked. -/
import Derived.Test.YtaddbbbdklialaaWireReads
namespace Go.Proofs.Ytaddbbbdklialaa
open Go.RowKit

theorem size_ref (f : Fr) (v : Value) (w : World) (hl : -1000000 ≤ f.len ∧ f.len ≤ 1000000) : Calls Try.prog 19 #[f.val v] w fun e w' => e = .returned (.int .i64 (sizeI f)) ∧ Below w.heap.size w w' := by
  unfold Fr.val sizeI
  by_cases hk : f.kind = 1
  · rw [if_pos hk]
    have hb : (f.kind == 1) = true := beq_iff_eq.2 hk
    clear hk
    go_enter Try.func19, Try.ntmps19
    go_wp2_with fail
    go_ret
    exact ⟨rfl, (Below.refl _ _).alloc (Nat.le_refl _) _⟩
  · rw [if_neg hk]
    have hb : (f.kind == 1) = false := beq_eq_false_iff_ne.2 hk
    clear hk
    go_enter Try.func19, Try.ntmps19
    go_wp2_with fail
    go_ret
    exact ⟨rfl, (Below.refl _ _).alloc (Nat.le_refl _) _⟩
theorem Rd.drew {w : World} {size n : Nat} {v : Value} {xs : List Value} (h : Rd w size v n xs) : Rd w.drew size v n xs := h
theorem quiet_str {P : Program} {ops : Array Oper} {C : World → Prop} {Q : Act → Prop} {rest : List Oper} {o : Oper} {a : Act} (hw : Region.wanted o (yielded ops a.tmps) = true) (src dst : TypeId) (x : Operand) (ho : o.op = .convert src dst x) {e : TypeId}
    (hs : P.underlying src = some (.slice e)) (he : P.underlying e = some (.int .u8)) (hd : P.underlying dst = some .string) {v : Value} {l : List UInt8} (h : ∀ w, C w → Rd w 1 v l.length (bcells l)) (hx : a.eval x = v)
    (hk : wpQuiet P ops C Q rest (a.put o.dst (.string ⟨l.toArray⟩))) : wpQuiet P ops C Q (o :: rest) a := by
  unfold wpQuiet
  rw [if_pos hw]
  refine ⟨_, fun w hc => ?_, hk⟩
  unfold Oper.quietAt
  simp [execOp, ho, hx, run_str hs he hd (h w hc), Oper.quietUpon]
def ChkIs (r : Int) (w : World) (e : Ending) (w' : World) : Prop := e = .returned (.int .i64 r) ∧ Below w.heap.size w w'
theorem chk_is {f : Fr} {r : Int} {w w' : World} {e : Ending} (hr : (okF f → r = 0) ∧ (¬ okF f → r = 1)) (h : CheckPost f w e w') : ChkIs r w e w' := by
  obtain ⟨⟨h1, rfl⟩ | ⟨h1, rfl⟩, hb⟩ := h
  · rw [hr.1 h1]; exact ⟨rfl, hb⟩
  · rw [hr.2 h1]; exact ⟨rfl, hb⟩
def EncIs (r : Int) (l : List UInt8) (w : World) (e : Ending) (w' : World) : Prop := ∃ v, e = .returned (.tuple #[v, .int .i64 r]) ∧ Rd w' 1 v l.length (bcells l) ∧ Below w.heap.size w w'
theorem enc_is {f : Fr} {r : Int} {l : List UInt8} {w w' : World} {e : Ending} (hr : (okF f → r = 0 ∧ l = encF f) ∧ (¬ okF f → r = 1 ∧ l = [])) (h : EncPost f w e w') : EncIs r l w e w' := by
  obtain ⟨⟨h1, v, rfl, ho⟩ | ⟨h1, rfl⟩, hb⟩ := h
  · obtain ⟨rfl, rfl⟩ := hr.1 h1
    exact ⟨v, rfl, Rd.of_own ho, hb⟩
  · obtain ⟨rfl, rfl⟩ := hr.2 h1
    exact ⟨_, rfl, Rd.nil _ _, hb⟩
set_option maxHeartbeats 8000000 in
theorem writes_any (f : Fr) (v : Value) (w : World) (hm : 0 ≤ f.msg) (h : Rd w 1 v f.data.length (bcells f.data)) : Calls Try.prog 5 #[f.val v] w (TrueBelow w) := by
  obtain ⟨v, cp, rfl, h1, h2⟩ := h.form
  have HR := Lib.hid h
  clear h
  have BF := Lib.hid ((Below.refl w.heap.size w).alloc (Nat.le_refl _) (.cells #[.int .i64 f.kind, .int .i64 f.src, .int .i64 f.dst, .int .i64 f.prio, .int .u64 f.msg, .int .i64 f.off, .int .i64 f.len, .int .i64 f.total, .int .i64 f.num, .slice v f.data.length cp] 26))
  have OF := Lib.hid (Ob.new w #[.int .i64 f.kind, .int .i64 f.src, .int .i64 f.dst, .int .i64 f.prio, .int .u64 f.msg, .int .i64 f.off, .int .i64 f.len, .int .i64 f.total, .int .i64 f.num, .slice v f.data.length cp] 26)
  rcases (by omega : 2000 < f.data.length ∨ f.data.length ≤ 2000) with hl | hl
  · unfold Fr.val
    go_enter Try.func5, Try.ntmps5
    go_wp2_with fail
    refine (awake_any _).mono ?_
    rintro e w2 ⟨rfl, hb⟩
    go_wp2_with fail
    go_ret
    exact ⟨rfl, BF.out.trans (hb.mono BF.out.size)⟩
  obtain ⟨r, L, HRL⟩ : ∃ (r : Int) (L : List UInt8), Hid ((okF f → r = 0 ∧ L = encF f) ∧ (¬ okF f → r = 1 ∧ L = [])) := by
    by_cases hok : okF f
    · exact ⟨0, encF f, Lib.hid ⟨fun _ => ⟨rfl, rfl⟩, fun h => absurd hok h⟩⟩
    · exact ⟨1, [], Lib.hid ⟨fun h => absurd h hok, fun _ => ⟨rfl, rfl⟩⟩⟩
  have HCR := Lib.hid (show (okF f → r = 0) ∧ (¬ okF f → r = 1) from ⟨fun h => (HRL.out.1 h).1, fun h => (HRL.out.2 h).1⟩)
  have HC := Lib.hid (fun W => (check_any f v cp hm W).mono fun _ _ h => chk_is HCR.out h)
  have HC' := Lib.hid (fun W => (check_ref f v cp hm W).mono fun _ _ h => chk_is HCR.out h)
  have HE := Lib.hid (fun W h => (encode_any f (.slice v f.data.length cp) hm W h).mono fun _ _ h => enc_is HRL.out h)
  have HE' := Lib.hid (fun W h => (encode_ref f (.slice v f.data.length cp) hm W h).mono fun _ _ h => enc_is HRL.out h)
  have hLL : (L == L) = true := by simp
  have hrr : (r == r) = true := by simp
  have HSA := Lib.hid (fun W h => (same_any f f (.slice v f.data.length cp) (.slice v f.data.length cp) W h h).mono fun _ _ h => same_one h)
  have HSZ := Lib.hid (size_any f (.slice v f.data.length cp))
  have HSZ' := Lib.hid (size_ref f (.slice v f.data.length cp))
  unfold Fr.val at HC HC' HE HE' HSA HSZ HSZ' ⊢
  go_enter Try.func5, Try.ntmps5
  go_wp2_with (go_at_call 15; refine (HE.out _ (HR.out.below BF.out)).mono ?_)
  rintro e w1 ⟨v1, rfl, hr1, hb1⟩
  have B1 := Lib.hid (BF.out.trans (hb1.mono BF.out.size))
  have OF1 : Hid (Ob w1 w.heap.size _ _) := Lib.hid (OF.out.below hb1)
  have R1 := Lib.hid hr1
  clear hb1 hr1
  obtain ⟨v1, c1, rfl, h3, h4⟩ := R1.out.form
  obtain ⟨lf, cf, ff⟩ := OF1.out.blk
  go_wp2_with (go_at_call 13; refine (HE'.out _ (HR.out.below B1.out)).mono ?_)
  rintro e w2 ⟨v2, rfl, hr2, hb2⟩
  have B2 := Lib.hid (B1.out.trans (hb2.mono B1.out.size))
  have OF2 : Hid (Ob w2 w.heap.size _ _) := Lib.hid (OF1.out.below hb2)
  have R2 := Lib.hid hr2
  have R1' := Lib.hid (R1.out.below hb2)
  clear hb2 hr2 lf cf ff
  obtain ⟨v2, c2, rfl, h5, h6⟩ := R2.out.form
  obtain ⟨lf, cf, ff⟩ := OF2.out.blk
  rcases (by omega : f.len < 0 ∨ 2000 < f.len ∨ (0 ≤ f.len ∧ f.len ≤ 2000)) with g | g | ⟨g, g'⟩
  · go_wp2_with fail
    have RA2 := Lib.hid R1'.out
    have RB2 := Lib.hid R2.out
    have HR2 := Lib.hid (HR.out.below B2.out)
    refine wp_run (M := (fun _ => False)) (stages [([true, false, true, false, false, false, false, false, false, false, false, false, false, false, false, false, false, false, false, false, false, false, false, false, false, false, false, false, false, false, false, false, false, false, false, false, false, false, false, false, false, false, false], 1), ([false, false, false, false, false, false, false, false, false, false, false, false, false, false, false, false, false, false, false, false, false, false, false, false, false, false, false, false, false, false, false, false, false, false, false, false, false, false, false, false, false, false, false], 3), ([false, false, false, false, true, true, true, true, true, true, true, true, true, true, true, true, true, true, true, true, true, true, true, true, true, true, true, true, false, true, false, false, false, false, false, false, false, false, false, false, false, false, false], 28), ([false, false, false, false, false, false, false, false, false, false, false, false, false, false, false, false, false, false, false, false, false, false, false, false, false, false, false, false, false, false, false, false, false, false, false, false, false, false, false, false, false, false, false], 30), ([false, false, false, false, false, false, false, false, false, false, false, false, false, false, false, false, false, false, false, false, false, false, false, false, false, false, false, false, false, false, false, true, true, true, true, true, true, false, false, false, false, false, false], 37), ([false, false, false, false, false, false, false, false, false, false, false, false, false, false, false, false, false, false, false, false, false, false, false, false, false, false, false, false, false, false, false, false, false, false, false, false, false, false, true, true, false, false, false], 40)] [false, false, false, false, false, false, false, false, false, false, false, false, false, false, false, false, false, false, false, false, false, false, false, false, false, false, false, false, false, false, false, false, false, false, false, false, false, false, false, false, false, true, true]) (by kernel_rfl) (by kernel_rfl) ?_
    refine run_stage rfl ?_
    simp only [pickAt]
    repeat (go_big_quiet_step (fail))
    refine wpQuiet_nil ?_
    refine run_want rfl ?_
    intro A hA
    go_simp
    refine (HC.out _).mono ?_
    rintro e w3 ⟨rfl, hb3⟩
    have OF3 : Hid (Ob w3 w.heap.size _ _) := Lib.hid (OF2.out.drew.below hb3)
    have B3 := Lib.hid (B2.out.drew.trans (hb3.mono B2.out.drew.size))
    have RA3 := Lib.hid (RA2.out.drew.below hb3)
    have RB3 := Lib.hid (RB2.out.drew.below hb3)
    have HR3 := Lib.hid (HR2.out.drew.below hb3)
    refine hA _ _ ((Kept.of_below hb3)) ?_
    try simp only [Act.put, List.setIfInBounds_toArray, List.set_cons_zero, List.set_cons_succ]
    clear A hA
    clear hb3 lf cf ff
    obtain ⟨lf, cf, ff⟩ := OF3.out.blk
    refine run_stage rfl ?_
    simp only [pickAt]
    repeat (go_big_quiet_step (fail))
    refine wpQuiet_nil ?_
    refine run_want rfl ?_
    intro A hA
    go_simp
    refine (HC'.out _).mono ?_
    rintro e w4 ⟨rfl, hb4⟩
    have OF4 : Hid (Ob w4 w.heap.size _ _) := Lib.hid (OF3.out.below hb4)
    have B4 := Lib.hid (B3.out.trans (hb4.mono B3.out.size))
    have RA4 := Lib.hid (RA3.out.below hb4)
    have RB4 := Lib.hid (RB3.out.below hb4)
    have HR4 := Lib.hid (HR3.out.below hb4)
    refine hA _ _ ((Kept.of_below hb4)) ?_
    try simp only [Act.put, List.setIfInBounds_toArray, List.set_cons_zero, List.set_cons_succ]
    clear A hA
    clear hb4 lf cf ff
    obtain ⟨lf, cf, ff⟩ := OF4.out.blk
    refine run_stage rfl ?_
    simp only [pickAt]
    repeat (first
      | (refine quiet_str rfl 22 9 (.tmp 28) rfl Try.underlying22 Try.underlying5 Try.underlying9 (fun w hw => by obtain ⟨k, rfl⟩ := hw; exact RA4.out.later k) rfl ?_; simp only [Act.put, List.setIfInBounds_toArray, List.set_cons_zero, List.set_cons_succ])
      | (refine quiet_str rfl 22 9 (.tmp 30) rfl Try.underlying22 Try.underlying5 Try.underlying9 (fun w hw => by obtain ⟨k, rfl⟩ := hw; exact RB4.out.later k) rfl ?_; simp only [Act.put, List.setIfInBounds_toArray, List.set_cons_zero, List.set_cons_succ])
      | go_big_quiet_step (fail))
    refine wpQuiet_nil ?_
    refine run_skip rfl ?_
    try simp only [Act.put, List.setIfInBounds_toArray, List.set_cons_zero, List.set_cons_succ]
    refine run_stage rfl ?_
    simp only [pickAt]
    repeat (go_big_quiet_step (fail))
    refine wpQuiet_nil ?_
    refine run_skip rfl ?_
    try simp only [Act.put, List.setIfInBounds_toArray, List.set_cons_zero, List.set_cons_succ]
    refine run_stage rfl ?_
    simp only [pickAt]
    repeat (go_big_quiet_step (fail))
    refine wpQuiet_nil ?_
    refine run_want rfl ?_
    intro A hA
    go_simp
    refine (HSA.out _ HR4.out).mono ?_
    rintro e w5 ⟨rfl, hb5⟩
    have OF5 : Hid (Ob w5 w.heap.size _ _) := Lib.hid (OF4.out.below hb5)
    have B5 := Lib.hid (B4.out.trans (hb5.mono B4.out.size))
    have RA5 := Lib.hid (RA4.out.below hb5)
    have RB5 := Lib.hid (RB4.out.below hb5)
    have HR5 := Lib.hid (HR4.out.below hb5)
    refine hA _ _ ((Kept.of_below hb5)) ?_
    try simp only [Act.put, List.setIfInBounds_toArray, List.set_cons_zero, List.set_cons_succ]
    clear A hA
    clear hb5 lf cf ff
    obtain ⟨lf, cf, ff⟩ := OF5.out.blk
    refine run_stage rfl ?_
    simp only [pickAt]
    repeat (go_big_quiet_step (fail))
    refine wpQuiet_nil ?_
    refine run_want rfl ?_
    intro A hA
    go_simp
    refine (awake_any _).mono ?_
    rintro e w6 ⟨rfl, hb6⟩
    have OF6 : Hid (Ob w6 w.heap.size _ _) := Lib.hid (OF5.out.below hb6)
    have B6 := Lib.hid (B5.out.trans (hb6.mono B5.out.size))
    have RA6 := Lib.hid (RA5.out.below hb6)
    have RB6 := Lib.hid (RB5.out.below hb6)
    have HR6 := Lib.hid (HR5.out.below hb6)
    refine hA _ _ ((Kept.of_below hb6)) ?_
    try simp only [Act.put, List.setIfInBounds_toArray, List.set_cons_zero, List.set_cons_succ]
    clear A hA
    clear hb6 lf cf ff
    obtain ⟨lf, cf, ff⟩ := OF6.out.blk
    refine run_last ?_
    simp only [pickAt]
    repeat (go_big_quiet_step (fail))
    refine wpQuiet_nil ?_
    go_wp2_with fail
    go_ret
    exact ⟨rfl, B6.out⟩
  · have hd0 : decide (f.len < 0) = false := by simp; omega
    have hd1 : decide (2000 < f.len) = true := by simp; omega
    go_wp2_with fail
    have RA2 := Lib.hid R1'.out
    have RB2 := Lib.hid R2.out
    have HR2 := Lib.hid (HR.out.below B2.out)
    refine wp_run (M := (fun _ => False)) (stages [([true, false, true, false, false, false, false, false, false, false, false, false, false, false, false, false, false, false, false, false, false, false, false, false, false, false, false, false, false, false, false, false, false, false, false, false, false, false, false, false, false, false, false], 1), ([false, false, false, false, false, false, false, false, false, false, false, false, false, false, false, false, false, false, false, false, false, false, false, false, false, false, false, false, false, false, false, false, false, false, false, false, false, false, false, false, false, false, false], 3), ([false, false, false, false, true, true, true, true, true, true, true, true, true, true, true, true, true, true, true, true, true, true, true, true, true, true, true, true, false, true, false, false, false, false, false, false, false, false, false, false, false, false, false], 28), ([false, false, false, false, false, false, false, false, false, false, false, false, false, false, false, false, false, false, false, false, false, false, false, false, false, false, false, false, false, false, false, false, false, false, false, false, false, false, false, false, false, false, false], 30), ([false, false, false, false, false, false, false, false, false, false, false, false, false, false, false, false, false, false, false, false, false, false, false, false, false, false, false, false, false, false, false, true, true, true, true, true, true, false, false, false, false, false, false], 37), ([false, false, false, false, false, false, false, false, false, false, false, false, false, false, false, false, false, false, false, false, false, false, false, false, false, false, false, false, false, false, false, false, false, false, false, false, false, false, true, true, false, false, false], 40)] [false, false, false, false, false, false, false, false, false, false, false, false, false, false, false, false, false, false, false, false, false, false, false, false, false, false, false, false, false, false, false, false, false, false, false, false, false, false, false, false, false, true, true]) (by kernel_rfl) (by kernel_rfl) ?_
    refine run_stage rfl ?_
    simp only [pickAt]
    repeat (go_big_quiet_step (fail))
    refine wpQuiet_nil ?_
    refine run_want rfl ?_
    intro A hA
    go_simp
    refine (HC.out _).mono ?_
    rintro e w3 ⟨rfl, hb3⟩
    have OF3 : Hid (Ob w3 w.heap.size _ _) := Lib.hid (OF2.out.drew.below hb3)
    have B3 := Lib.hid (B2.out.drew.trans (hb3.mono B2.out.drew.size))
    have RA3 := Lib.hid (RA2.out.drew.below hb3)
    have RB3 := Lib.hid (RB2.out.drew.below hb3)
    have HR3 := Lib.hid (HR2.out.drew.below hb3)
    refine hA _ _ ((Kept.of_below hb3)) ?_
    try simp only [Act.put, List.setIfInBounds_toArray, List.set_cons_zero, List.set_cons_succ]
    clear A hA
    clear hb3 lf cf ff
    obtain ⟨lf, cf, ff⟩ := OF3.out.blk
    refine run_stage rfl ?_
    simp only [pickAt]
    repeat (go_big_quiet_step (fail))
    refine wpQuiet_nil ?_
    refine run_want rfl ?_
    intro A hA
    go_simp
    refine (HC'.out _).mono ?_
    rintro e w4 ⟨rfl, hb4⟩
    have OF4 : Hid (Ob w4 w.heap.size _ _) := Lib.hid (OF3.out.below hb4)
    have B4 := Lib.hid (B3.out.trans (hb4.mono B3.out.size))
    have RA4 := Lib.hid (RA3.out.below hb4)
    have RB4 := Lib.hid (RB3.out.below hb4)
    have HR4 := Lib.hid (HR3.out.below hb4)
    refine hA _ _ ((Kept.of_below hb4)) ?_
    try simp only [Act.put, List.setIfInBounds_toArray, List.set_cons_zero, List.set_cons_succ]
    clear A hA
    clear hb4 lf cf ff
    obtain ⟨lf, cf, ff⟩ := OF4.out.blk
    refine run_stage rfl ?_
    simp only [pickAt]
    repeat (first
      | (refine quiet_str rfl 22 9 (.tmp 28) rfl Try.underlying22 Try.underlying5 Try.underlying9 (fun w hw => by obtain ⟨k, rfl⟩ := hw; exact RA4.out.later k) rfl ?_; simp only [Act.put, List.setIfInBounds_toArray, List.set_cons_zero, List.set_cons_succ])
      | (refine quiet_str rfl 22 9 (.tmp 30) rfl Try.underlying22 Try.underlying5 Try.underlying9 (fun w hw => by obtain ⟨k, rfl⟩ := hw; exact RB4.out.later k) rfl ?_; simp only [Act.put, List.setIfInBounds_toArray, List.set_cons_zero, List.set_cons_succ])
      | go_big_quiet_step (fail))
    refine wpQuiet_nil ?_
    refine run_skip rfl ?_
    try simp only [Act.put, List.setIfInBounds_toArray, List.set_cons_zero, List.set_cons_succ]
    refine run_stage rfl ?_
    simp only [pickAt]
    repeat (go_big_quiet_step (fail))
    refine wpQuiet_nil ?_
    refine run_skip rfl ?_
    try simp only [Act.put, List.setIfInBounds_toArray, List.set_cons_zero, List.set_cons_succ]
    refine run_stage rfl ?_
    simp only [pickAt]
    repeat (go_big_quiet_step (fail))
    refine wpQuiet_nil ?_
    refine run_want rfl ?_
    intro A hA
    go_simp
    refine (HSA.out _ HR4.out).mono ?_
    rintro e w5 ⟨rfl, hb5⟩
    have OF5 : Hid (Ob w5 w.heap.size _ _) := Lib.hid (OF4.out.below hb5)
    have B5 := Lib.hid (B4.out.trans (hb5.mono B4.out.size))
    have RA5 := Lib.hid (RA4.out.below hb5)
    have RB5 := Lib.hid (RB4.out.below hb5)
    have HR5 := Lib.hid (HR4.out.below hb5)
    refine hA _ _ ((Kept.of_below hb5)) ?_
    try simp only [Act.put, List.setIfInBounds_toArray, List.set_cons_zero, List.set_cons_succ]
    clear A hA
    clear hb5 lf cf ff
    obtain ⟨lf, cf, ff⟩ := OF5.out.blk
    refine run_stage rfl ?_
    simp only [pickAt]
    repeat (go_big_quiet_step (fail))
    refine wpQuiet_nil ?_
    refine run_want rfl ?_
    intro A hA
    go_simp
    refine (awake_any _).mono ?_
    rintro e w6 ⟨rfl, hb6⟩
    have OF6 : Hid (Ob w6 w.heap.size _ _) := Lib.hid (OF5.out.below hb6)
    have B6 := Lib.hid (B5.out.trans (hb6.mono B5.out.size))
    have RA6 := Lib.hid (RA5.out.below hb6)
    have RB6 := Lib.hid (RB5.out.below hb6)
    have HR6 := Lib.hid (HR5.out.below hb6)
    refine hA _ _ ((Kept.of_below hb6)) ?_
    try simp only [Act.put, List.setIfInBounds_toArray, List.set_cons_zero, List.set_cons_succ]
    clear A hA
    clear hb6 lf cf ff
    obtain ⟨lf, cf, ff⟩ := OF6.out.blk
    refine run_last ?_
    simp only [pickAt]
    repeat (go_big_quiet_step (fail))
    refine wpQuiet_nil ?_
    go_wp2_with fail
    go_ret
    exact ⟨rfl, B6.out⟩
  · have hsz : (sizeI f == sizeI f) = true := by simp
    have hd0 : decide (f.len < 0) = false := by simp; omega
    have hd1 : decide (2000 < f.len) = false := by simp; omega
    go_wp2_with fail
    have RA2 := Lib.hid R1'.out
    have RB2 := Lib.hid R2.out
    have HR2 := Lib.hid (HR.out.below B2.out)
    refine wp_run (M := (fun _ => False)) (stages [([true, false, true, false, false, false, false, false, false, false, false, false, false, false, false, false, false, false, false, false, false, false, false, false, false, false, false, false, false, false, false, false, false, false, false, false, false, false, false, false, false, false, false], 1), ([false, false, false, false, false, false, false, false, false, false, false, false, false, false, false, false, false, false, false, false, false, false, false, false, false, false, false, false, false, false, false, false, false, false, false, false, false, false, false, false, false, false, false], 3), ([false, false, false, false, true, true, true, true, true, true, true, true, true, true, true, true, true, true, true, true, true, true, true, true, true, true, true, true, false, true, false, false, false, false, false, false, false, false, false, false, false, false, false], 28), ([false, false, false, false, false, false, false, false, false, false, false, false, false, false, false, false, false, false, false, false, false, false, false, false, false, false, false, false, false, false, false, false, false, false, false, false, false, false, false, false, false, false, false], 30), ([false, false, false, false, false, false, false, false, false, false, false, false, false, false, false, false, false, false, false, false, false, false, false, false, false, false, false, false, false, false, false, true, true, true, true, true, true, false, false, false, false, false, false], 37), ([false, false, false, false, false, false, false, false, false, false, false, false, false, false, false, false, false, false, false, false, false, false, false, false, false, false, false, false, false, false, false, false, false, false, false, false, false, false, true, true, false, false, false], 40)] [false, false, false, false, false, false, false, false, false, false, false, false, false, false, false, false, false, false, false, false, false, false, false, false, false, false, false, false, false, false, false, false, false, false, false, false, false, false, false, false, false, true, true]) (by kernel_rfl) (by kernel_rfl) ?_
    refine run_stage rfl ?_
    simp only [pickAt]
    repeat (go_big_quiet_step (fail))
    refine wpQuiet_nil ?_
    refine run_want rfl ?_
    intro A hA
    go_simp
    refine (HC.out _).mono ?_
    rintro e w3 ⟨rfl, hb3⟩
    have OF3 : Hid (Ob w3 w.heap.size _ _) := Lib.hid (OF2.out.drew.below hb3)
    have B3 := Lib.hid (B2.out.drew.trans (hb3.mono B2.out.drew.size))
    have RA3 := Lib.hid (RA2.out.drew.below hb3)
    have RB3 := Lib.hid (RB2.out.drew.below hb3)
    have HR3 := Lib.hid (HR2.out.drew.below hb3)
    refine hA _ _ ((Kept.of_below hb3)) ?_
    try simp only [Act.put, List.setIfInBounds_toArray, List.set_cons_zero, List.set_cons_succ]
    clear A hA
    clear hb3 lf cf ff
    obtain ⟨lf, cf, ff⟩ := OF3.out.blk
    refine run_stage rfl ?_
    simp only [pickAt]
    repeat (go_big_quiet_step (fail))
    refine wpQuiet_nil ?_
    refine run_want rfl ?_
    intro A hA
    go_simp
    refine (HC'.out _).mono ?_
    rintro e w4 ⟨rfl, hb4⟩
    have OF4 : Hid (Ob w4 w.heap.size _ _) := Lib.hid (OF3.out.below hb4)
    have B4 := Lib.hid (B3.out.trans (hb4.mono B3.out.size))
    have RA4 := Lib.hid (RA3.out.below hb4)
    have RB4 := Lib.hid (RB3.out.below hb4)
    have HR4 := Lib.hid (HR3.out.below hb4)
    refine hA _ _ ((Kept.of_below hb4)) ?_
    try simp only [Act.put, List.setIfInBounds_toArray, List.set_cons_zero, List.set_cons_succ]
    clear A hA
    clear hb4 lf cf ff
    obtain ⟨lf, cf, ff⟩ := OF4.out.blk
    refine run_stage rfl ?_
    simp only [pickAt]
    repeat (first
      | (refine quiet_str rfl 22 9 (.tmp 28) rfl Try.underlying22 Try.underlying5 Try.underlying9 (fun w hw => by obtain ⟨k, rfl⟩ := hw; exact RA4.out.later k) rfl ?_; simp only [Act.put, List.setIfInBounds_toArray, List.set_cons_zero, List.set_cons_succ])
      | (refine quiet_str rfl 22 9 (.tmp 30) rfl Try.underlying22 Try.underlying5 Try.underlying9 (fun w hw => by obtain ⟨k, rfl⟩ := hw; exact RB4.out.later k) rfl ?_; simp only [Act.put, List.setIfInBounds_toArray, List.set_cons_zero, List.set_cons_succ])
      | go_big_quiet_step (fail))
    refine wpQuiet_nil ?_
    refine run_want rfl ?_
    intro A hA
    go_simp
    refine (HSZ.out _ (by omega)).mono ?_
    rintro e w5 ⟨rfl, hb5⟩
    have OF5 : Hid (Ob w5 w.heap.size _ _) := Lib.hid (OF4.out.below hb5)
    have B5 := Lib.hid (B4.out.trans (hb5.mono B4.out.size))
    have RA5 := Lib.hid (RA4.out.below hb5)
    have RB5 := Lib.hid (RB4.out.below hb5)
    have HR5 := Lib.hid (HR4.out.below hb5)
    refine hA _ _ ((Kept.of_below hb5)) ?_
    try simp only [Act.put, List.setIfInBounds_toArray, List.set_cons_zero, List.set_cons_succ]
    clear A hA
    clear hb5 lf cf ff
    obtain ⟨lf, cf, ff⟩ := OF5.out.blk
    refine run_stage rfl ?_
    simp only [pickAt]
    repeat (go_big_quiet_step (fail))
    refine wpQuiet_nil ?_
    refine run_want rfl ?_
    intro A hA
    go_simp
    refine (HSZ'.out _ (by omega)).mono ?_
    rintro e w6 ⟨rfl, hb6⟩
    have OF6 : Hid (Ob w6 w.heap.size _ _) := Lib.hid (OF5.out.below hb6)
    have B6 := Lib.hid (B5.out.trans (hb6.mono B5.out.size))
    have RA6 := Lib.hid (RA5.out.below hb6)
    have RB6 := Lib.hid (RB5.out.below hb6)
    have HR6 := Lib.hid (HR5.out.below hb6)
    refine hA _ _ ((Kept.of_below hb6)) ?_
    try simp only [Act.put, List.setIfInBounds_toArray, List.set_cons_zero, List.set_cons_succ]
    clear A hA
    clear hb6 lf cf ff
    obtain ⟨lf, cf, ff⟩ := OF6.out.blk
    refine run_stage rfl ?_
    simp only [pickAt]
    repeat (go_big_quiet_step (fail))
    refine wpQuiet_nil ?_
    refine run_want rfl ?_
    intro A hA
    go_simp
    refine (HSA.out _ HR6.out).mono ?_
    rintro e w7 ⟨rfl, hb7⟩
    have OF7 : Hid (Ob w7 w.heap.size _ _) := Lib.hid (OF6.out.below hb7)
    have B7 := Lib.hid (B6.out.trans (hb7.mono B6.out.size))
    have RA7 := Lib.hid (RA6.out.below hb7)
    have RB7 := Lib.hid (RB6.out.below hb7)
    have HR7 := Lib.hid (HR6.out.below hb7)
    refine hA _ _ ((Kept.of_below hb7)) ?_
    try simp only [Act.put, List.setIfInBounds_toArray, List.set_cons_zero, List.set_cons_succ]
    clear A hA
    clear hb7 lf cf ff
    obtain ⟨lf, cf, ff⟩ := OF7.out.blk
    refine run_stage rfl ?_
    simp only [pickAt]
    repeat (go_big_quiet_step (fail))
    refine wpQuiet_nil ?_
    refine run_want rfl ?_
    intro A hA
    go_simp
    refine (awake_any _).mono ?_
    rintro e w8 ⟨rfl, hb8⟩
    have OF8 : Hid (Ob w8 w.heap.size _ _) := Lib.hid (OF7.out.below hb8)
    have B8 := Lib.hid (B7.out.trans (hb8.mono B7.out.size))
    have RA8 := Lib.hid (RA7.out.below hb8)
    have RB8 := Lib.hid (RB7.out.below hb8)
    have HR8 := Lib.hid (HR7.out.below hb8)
    refine hA _ _ ((Kept.of_below hb8)) ?_
    try simp only [Act.put, List.setIfInBounds_toArray, List.set_cons_zero, List.set_cons_succ]
    clear A hA
    clear hb8 lf cf ff
    obtain ⟨lf, cf, ff⟩ := OF8.out.blk
    refine run_last ?_
    simp only [pickAt]
    repeat (go_big_quiet_step (fail))
    refine wpQuiet_nil ?_
    go_wp2_with fail
    go_ret
    exact ⟨rfl, B8.out⟩
end Go.Proofs.Ytaddbbbdklialaa
