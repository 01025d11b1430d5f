/- A wheel (chapter 2): what is refused, nothing, awake, and the law WheelNothing. -/
import Derived.Test.YtlibnjhoggfhfaaWheelV
namespace Go.Proofs.Ytlibnjhoggfhfaa
open Go.RowKit

theorem addno_dui (p : Option Addr) (at' z : Int) (w : World) (h : at' < 0 ∨ 1125899906842624 < at') : Calls Try.prog 10 #[.pointer p, .int .i64 at', .int .i64 z] w fun e w' => e = .returned (.tuple #[.int .i64 0, .int .i64 1]) ∧ w = w' := by
  rcases (by omega : at' < 0 ∨ (0 ≤ at' ∧ 1125899906842624 < at')) with h1 | ⟨h1, h2⟩
  all_goals
    clear h
    go_enter Try.func10, Try.ntmps10
    go_wp2_with fail
    go_ret2
    exact ⟨rfl, rfl⟩
theorem addfull_dui (b B0 : Nat) (V : Value) (s : Wl) (at' z : Int) (w : World) (h : Wh 65 33 b B0 V s w) (a0 : 0 ≤ at') (a1 : at' ≤ 1125899906842624) (hr : s.most ≤ (s.l.length : Int)) :
    Calls Try.prog 10 #[.pointer (some ⟨b, 0, none⟩), .int .i64 at', .int .i64 z] w fun e w' => e = .returned (.tuple #[.int .i64 0, .int .i64 4]) ∧ ∃ q, w' = w.drewN q := by
  obtain ⟨a, c, hv, _, _⟩ := (Rd.of_own h.own).form
  obtain ⟨lb, cb, fb⟩ := h.ob.blk
  have c0 := cb 0
  have c3 := cb 3
  rw [hv] at c0 c3
  clear cb hv h
  have hd : decide (s.most ≤ (s.l.length : Int)) = true := decide_eq_true hr
  go_enter Try.func10, Try.ntmps10
  go_wp2_with fail
  refine wp_region_quiet_lit (by kernel_rfl) (by kernel_rfl) ?_
  try simp only [List.append]
  repeat (first | go_big_quiet_step (fail) | quiet_step (fail))
  refine wpQuiet_nil ?_
  intro W hW
  obtain ⟨q, rfl⟩ := hW
  clear c0 c3 lb fb
  go_wp2_with fail
  go_ret2
  exact ⟨rfl, q, rfl⟩
theorem addnil_dui (at' z : Int) (w : World) (a0 : 0 ≤ at') (a1 : at' ≤ 1125899906842624) : Calls Try.prog 10 #[.pointer none, .int .i64 at', .int .i64 z] w fun e w' => e = .returned (.tuple #[.int .i64 0, .int .i64 4]) ∧ ∃ q, w' = w.drewN q := by
  go_enter Try.func10, Try.ntmps10
  go_wp2_with fail
  refine wp_region_quiet_lit (by kernel_rfl) (by kernel_rfl) ?_
  try simp only [List.append]
  repeat (first | go_big_quiet_step (fail) | quiet_step (fail))
  refine wpQuiet_nil ?_
  intro W hW
  obtain ⟨q, rfl⟩ := hW
  go_wp2_with fail
  go_ret2
  exact ⟨rfl, q, rfl⟩
theorem lennil_dui (w : World) : Calls Try.prog 12 #[.pointer none] w fun e w' => e = .returned (.int .i64 0) ∧ w = w' := by
  go_enter Try.func12, Try.ntmps12
  go_wp2_with fail
  go_ret
  exact ⟨rfl, rfl⟩
theorem nownil_dui (w : World) : Calls Try.prog 13 #[.pointer none] w fun e w' => e = .returned (.int .i64 0) ∧ w = w' := by
  go_enter Try.func13, Try.ntmps13
  go_wp2_with fail
  go_ret
  exact ⟨rfl, rfl⟩
theorem nextnil_dui (w : World) : Calls Try.prog 19 #[.pointer none] w fun e w' => e = .returned (.tuple #[.int .i64 0, .bool false]) ∧ w = w' := by
  go_enter Try.func19, Try.ntmps19
  go_wp2_with fail
  refine (lennil_dui _).mono ?_
  rintro e w1 ⟨rfl, rfl⟩
  go_wp2_with fail
  go_ret2
  exact ⟨rfl, rfl⟩
theorem cancelnil_dui (id : Int) (w : World) : Calls Try.prog 14 #[.pointer none, .int .i64 id] w fun e w' => e = .returned (.int .i64 5) ∧ Below w.heap.size w w' := by
  go_enter Try.func14, Try.ntmps14
  go_wp2_with fail
  go_ret
  exact ⟨rfl, (Below.refl _ _).alloc (Nat.le_refl _) _⟩
theorem advnil_dui (tn : Int) (w : World) : Calls Try.prog 11 #[.pointer none, .int .i64 tn] w fun e w' => e = .returned (.slice none 0 0) ∧ Below w.heap.size w w' := by
  go_enter Try.func11, Try.ntmps11
  go_wp2_with fail
  go_ret
  exact ⟨rfl, (Below.refl _ _).alloc (Nat.le_refl _) _⟩
theorem new_ok {m : Int} (h0 : 1 ≤ m) (h1 : m ≤ 100000) : (⟨m, 0, 0, []⟩ : Wl).ok :=
  ⟨h0, h1, by show (0 : Int) ≤ 0; omega, by show (0 : Int) ≤ _; omega, by show (0 : Int) ≤ 0; omega, by show (0 : Int) ≤ _; omega, List.Pairwise.nil, fun x hx => (by cases hx), fun x hx => (by cases hx), fun x hx => (by cases hx), by show ((0 : Nat) : Int) ≤ m; omega⟩
def xx : Value := .string ⟨#[120]⟩
theorem aw_plus : (⟨5, 0, 0, []⟩ : Wl).plus 5 xx = ⟨5, 0, 1, [⟨5, 1, xx⟩]⟩ := rfl
theorem aw_ok : (⟨5, 0, 1, [⟨5, 1, xx⟩]⟩ : Wl).ok :=
  ⟨by decide, by decide, by decide, by decide, by decide, by decide, by simp, fun x hx => (by simp at hx; subst hx; decide), fun x hx => (by simp at hx; subst hx; decide), fun x hx => (by simp at hx; subst hx; rfl), by decide⟩
theorem aw_out : (⟨5, 0, 1, [⟨5, 1, xx⟩]⟩ : Wl).out 5 = [⟨5, 1, xx⟩] := rfl
theorem aw_goes : (⟨5, 0, 1, [⟨5, 1, xx⟩]⟩ : Wl).goes 5 = ⟨5, 5, 1, []⟩ := rfl
theorem WhPost.below {TW TD : TypeId} {b B0 B : Nat} {V : Value} {s s' : Wl} {w w' : World} (h : WhPost TW TD b B0 V s' w w') (hw : Wh TW TD b B0 V s w) (hB : B ≤ B0) : Below B w w' := by
  obtain ⟨_, _, hk, _⟩ := h
  exact hk.belowAt (by have := hw.bb; have := hw.ob.lt; omega) (fun x hx => Nat.le_trans hB (hw.lt x hx).1)
set_option maxHeartbeats 2000000 in
theorem awake_any (w : World) : Calls Try.prog 8 #[] w (TrueBelow w) := by
  go_enter Try.func8, Try.ntmps8
  go_wp2_with fail
  refine (new_dus 5 w ⟨by decide, by decide⟩).mono ?_
  rintro e w1 ⟨rfl, hw1, hb1⟩
  have HW1 := Lib.hid hw1
  have B1 := Lib.hid hb1
  have s1 := hb1.size
  clear hw1 hb1
  go_wp2_with fail
  refine (newno_dui 0 _ (by omega)).mono ?_
  rintro e w2 ⟨rfl, rfl⟩
  go_wp2_with fail
  refine (add_dus w.heap.size w.heap.size _ _ 5 ⟨#[120]⟩ _ HW1.out (new_ok (by decide) (by decide)) (by decide) (by decide) (by decide) (by decide)).mono ?_
  rintro e w3 ⟨rfl, hp3⟩
  have hb3 := hp3.below HW1.out (Nat.le_refl _)
  obtain ⟨V3, hw3, _⟩ := hp3
  have hw3 : Wh 75 63 w.heap.size w.heap.size V3 ⟨5, 0, 1, [⟨5, 1, xx⟩]⟩ w3 := hw3
  have HW3 := Lib.hid hw3
  have B3 := Lib.hid (B1.out.trans hb3)
  clear hw3 hb3
  go_wp2_with fail
  refine (adv_dus w.heap.size w.heap.size V3 _ 5 _ HW3.out aw_ok).mono ?_
  rintro e w4 ⟨v4, rfl, hv4, hp4⟩
  have hb4 := hp4.weak.below HW3.out (Nat.le_refl _)
  obtain ⟨V4, hw4, _⟩ := hp4
  rw [aw_goes] at hw4
  rw [aw_out] at hv4
  have HW4 := Lib.hid hw4
  have B4 := Lib.hid (B3.out.trans hb4)
  clear hw4 hb4
  have hv4 : w4.ownsRow w3.heap.size 63 3 v4 1 [.int .i64 5, .int .i64 1, .string ⟨#[120]⟩] := hv4
  obtain ⟨g, cap, rfl, _, _, _, hg, hc, _⟩ := own_some hv4 (by decide)
  have c0 : w4.cell? ⟨g, 0, none⟩ = some (.int .i64 5) := hc 0 _ rfl
  have c2 : w4.cell? ⟨g, 2, none⟩ = some (.string ⟨#[120]⟩) := hc 2 _ rfl
  clear hc hv4
  go_wp2_with fail
  refine (len_dus w.heap.size w.heap.size V4 _ _ HW4.out).mono ?_
  rintro e w5 ⟨rfl, rfl⟩
  go_wp2_with fail
  go_ret
  exact ⟨rfl, B4.out⟩
set_option maxHeartbeats 2000000 in
theorem nothing_any (at' n : Int) (w : World) : Calls Try.prog 7 #[.int .i64 at', .int .i64 n] w (TrueBelow w) := by
  rcases (by omega : at' < 0 ∨ (0 ≤ at' ∧ 1125899906842624 < at') ∨ (0 ≤ at' ∧ at' ≤ 1125899906842624)) with h | ⟨h, h2⟩ | ⟨h, h2⟩
  iterate 2
    · have HN : Hid (at' < 0 ∨ 1125899906842624 < at') := Lib.hid (by omega)
      go_enter Try.func7, Try.ntmps7
      go_wp2_with fail
      refine (addno_dui none at' n _ HN.out).mono ?_
      rintro e w1 ⟨rfl, rfl⟩
      go_wp2_with fail
      refine (nextnil_dui _).mono ?_
      rintro e w1 ⟨rfl, rfl⟩
      go_wp2_with fail
      refine (cancelnil_dui n _).mono ?_
      rintro e w1 ⟨rfl, hb1⟩
      go_wp2_with fail
      refine (advnil_dui at' _).mono ?_
      rintro e w2 ⟨rfl, hb2⟩
      have B2 := Lib.hid (hb1.trans (hb2.mono hb1.size))
      clear hb1 hb2
      go_wp2_with fail
      refine (nownil_dui _).mono ?_
      rintro e w3 ⟨rfl, rfl⟩
      go_wp2_with fail
      refine (lennil_dui _).mono ?_
      rintro e w3 ⟨rfl, rfl⟩
      go_wp2_with fail
      refine (awake_any _).mono ?_
      rintro e w3 ⟨rfl, hb3⟩
      go_wp2_with fail
      go_ret
      exact ⟨rfl, B2.out.trans (hb3.mono B2.out.size)⟩
  · go_enter Try.func7, Try.ntmps7
    go_wp2_with fail
    refine (addnil_dui at' n _ h h2).mono ?_
    rintro e w1 ⟨rfl, q, rfl⟩
    have B0 := Lib.hid (below_dn (n := q) (Below.refl w.heap.size w))
    generalize w.drewN q = w0 at *
    go_wp2_with fail
    refine (nextnil_dui _).mono ?_
    rintro e w1 ⟨rfl, rfl⟩
    go_wp2_with fail
    refine (cancelnil_dui n _).mono ?_
    rintro e w1 ⟨rfl, hb1⟩
    go_wp2_with fail
    refine (advnil_dui at' _).mono ?_
    rintro e w2 ⟨rfl, hb2⟩
    have B2 := Lib.hid ((B0.out.trans (hb1.mono B0.out.size)).trans (hb2.mono (Nat.le_trans B0.out.size hb1.size)))
    clear hb1 hb2
    go_wp2_with fail
    refine (nownil_dui _).mono ?_
    rintro e w3 ⟨rfl, rfl⟩
    go_wp2_with fail
    refine (lennil_dui _).mono ?_
    rintro e w3 ⟨rfl, rfl⟩
    go_wp2_with fail
    refine (awake_any _).mono ?_
    rintro e w3 ⟨rfl, hb3⟩
    go_wp2_with fail
    go_ret
    exact ⟨rfl, B2.out.trans (hb3.mono B2.out.size)⟩
end Go.Proofs.Ytlibnjhoggfhfaa
