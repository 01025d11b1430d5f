/- A set of ranges (chapter 5): awake, nothing, two lists held against each other. -/
import Derived.Test.YtafielokhkoadaaIvG
import Derived.Test.YtafielokhkoadaaFrame
namespace Go.Proofs.Ytafielokhkoadaa
open Go.RowKit

theorem IvPost.below {b B0 B : Nat} {V : Value} {s s' : Is} {w w' : World} (h : IvPost b B0 V s' w w') (hw : Iv b B0 V s w) (hB : B ≤ B0) : Below B w w' := by
  obtain ⟨V', h1, h2, h3⟩ := h
  exact h2.belowAt (by have := hw.bb; have := hw.ob.lt; omega) (fun x hx => Nat.le_trans hB (hw.lt x hx).1)
theorem new_ok {t : Int} (h0 : 0 ≤ t) (h1 : t ≤ 1073741824) : (⟨t, []⟩ : Is).ok := ⟨h0, h1, trivial⟩
theorem aw_add : (⟨10, []⟩ : Is).add 2 5 = ⟨10, [⟨2, 5⟩]⟩ := by
  unfold Is.add
  rw [if_pos ⟨by decide, by decide⟩]; rfl
theorem aw_ans : (⟨10, []⟩ : Is).ans 2 5 = (3, 0) := by
  unfold Is.ans
  rw [if_pos (by decide)]; rfl
theorem aw_gaps : gp (min 10 10) 9 ([(⟨2, 5⟩ : Rg)] ++ [⟨10, 10⟩]) 0 [] = [⟨0, 2⟩, ⟨5, 10⟩] := by rfl
set_option maxRecDepth 100000 in
set_option maxHeartbeats 2000000 in
theorem awake_any (w : World) : Calls Try.prog 6 #[] w (TrueBelow w) := by
  go_enter Try.func6, Try.ntmps6
  go_wp2_with fail
  refine (new_iv 10 w ⟨by decide, by decide⟩).mono ?_
  rintro e w1 ⟨rfl, hw1, hb1⟩
  have HW1 := Lib.hid hw1
  have B1 := Lib.hid hb1
  clear hw1 hb1
  go_wp2_with fail
  refine (newno_iv (-1) _ (by omega)).mono ?_
  rintro e w2 ⟨rfl, rfl⟩
  go_wp2_with fail
  refine (add_all w.heap.size w.heap.size _ _ 2 5 _ HW1.out (new_ok (by decide) (by decide)) (by decide)).mono ?_
  rw [aw_ans, aw_add]
  rintro e w3 ⟨rfl, hp3⟩
  have hb3 := hp3.below HW1.out (Nat.le_refl _)
  obtain ⟨V3, hw3, _⟩ := hp3
  have HW3 := Lib.hid hw3
  have B3 := Lib.hid (B1.out.trans hb3)
  have s3 := B3.out.size
  clear hw3 hb3
  go_wp2_with fail
  refine (gaps_iv w.heap.size w.heap.size V3 _ 10 9 _ HW3.out (by decide)).mono ?_
  rintro e w4 ⟨v4, rfl, hv4, hb4⟩
  have hv4 : w4.ownsRow w3.heap.size TR 2 v4 2 [.int .i64 0, .int .i64 2, .int .i64 5, .int .i64 10] := by
    have h := hv4
    simp only [] at h
    rw [aw_gaps] at h
    exact h
  have HW4 := Lib.hid (HW3.out.below hb4)
  have B4 := Lib.hid (B3.out.trans (hb4.mono s3))
  have s4 := B4.out.size
  obtain ⟨g, cap, rfl, _, _, _, hg, hc, _⟩ := own_some hv4 (by decide)
  have c0 : w4.cell? ⟨g, 0, none⟩ = some (.int .i64 0) := hc 0 _ rfl
  have c1 : w4.cell? ⟨g, 1, none⟩ = some (.int .i64 2) := hc 1 _ rfl
  have c2 : w4.cell? ⟨g, 2, none⟩ = some (.int .i64 5) := hc 2 _ rfl
  have c3 : w4.cell? ⟨g, 3, none⟩ = some (.int .i64 10) := hc 3 _ rfl
  clear hc hv4 hb4
  go_wp2_with fail
  refine (sum_iv w.heap.size w.heap.size V3 _ _ HW4.out ⟨by decide, by decide, by simp [Asc]⟩ (by decide)).mono ?_
  rintro e w5 ⟨rfl, hb5⟩
  have B5 := Lib.hid (B4.out.trans (hb5.mono s4))
  have e3 : total [(⟨2, 5⟩ : Rg)] = 3 := rfl
  simp only [e3]
  clear hb5
  go_wp2_with fail
  go_ret
  exact ⟨rfl, B5.out⟩
set_option maxRecDepth 100000 in
set_option maxHeartbeats 2000000 in
theorem nothing_any (f t : Int) (w : World) : Calls Try.prog 5 #[.int .i64 f, .int .i64 t] w (TrueBelow w) := by
  go_enter Try.func5, Try.ntmps5
  go_wp2_with fail
  refine (addnil_iv f t _).mono ?_
  rintro e w1 ⟨rfl, hb1⟩
  have B1 := Lib.hid hb1
  have s1 := hb1.size
  clear hb1
  go_wp2_with fail
  refine (hasnil_iv f t _).mono ?_
  rintro e w2 ⟨rfl, rfl⟩
  go_wp2_with fail
  refine (gapsnil_iv t t _).mono ?_
  rintro e w2 ⟨rfl, rfl⟩
  go_wp2_with fail
  refine (rangesnil_iv _).mono ?_
  rintro e w2 ⟨rfl, rfl⟩
  go_wp2_with fail
  refine (sumnil_iv _).mono ?_
  rintro e w2 ⟨rfl, rfl⟩
  go_wp2_with fail
  refine (frontnil_iv _).mono ?_
  rintro e w2 ⟨rfl, rfl⟩
  go_wp2_with fail
  refine (fullnil_iv _).mono ?_
  rintro e w2 ⟨rfl, hb2⟩
  have B2 := Lib.hid (B1.out.trans (hb2.mono s1))
  have s2 := B2.out.size
  clear hb2
  go_wp2_with fail
  refine (freshnil_iv f t _).mono ?_
  rintro e w3 ⟨rfl, rfl⟩
  go_wp2_with fail
  refine (awake_any _).mono ?_
  rintro e w4 ⟨rfl, hb4⟩
  go_wp2_with fail
  go_ret
  exact ⟨rfl, B2.out.trans (hb4.mono s2)⟩
set_option maxRecDepth 100000 in
theorem like_iv (l : List Rg) (va vb : Value) (w : World) (h : Rd w 2 va l.length (l.flatMap Rg.row)) (h' : Rd w 2 vb l.length (l.flatMap Rg.row)) :
    Calls Try.prog 10 #[va, vb] w fun e w' => e = .returned (.bool true) ∧ Kept (fun _ => False) w w' := by
  obtain ⟨a, c, rfl, _, _⟩ := h.form
  obtain ⟨a', c', rfl, _, _⟩ := h'.form
  have HR := Lib.hid h
  have HR' := Lib.hid h'
  clear h h'
  go_enter Try.func10, Try.ntmps10
  go_wp2_with fail
  go_loopw [5] (fun i wr => ∃ k : Nat, i = .int .i64 k ∧ k ≤ l.length ∧ Kept (fun _ => False) w wr) (fun i _ => l.length - (intOf i).toNat)
  case atStart => exact ⟨0, rfl, Nat.zero_le _, Kept.refl _ _⟩
  case round =>
    obtain ⟨k, rfl, hk, hkp⟩ := hrel
    have HKP := Lib.hid hkp
    by_cases hlt : k < l.length
    · obtain ⟨g, o, rfl, hg, cwa⟩ := Rd.row rowRg (by decide) (HR.out.keptF hkp) k hlt
      obtain ⟨g', o', rfl, hg', cwb⟩ := Rd.row rowRg (by decide) (HR'.out.keptF hkp) k hlt
      have c0 := cwa 0 (.int .i64 l[k].f) rfl
      have c1 := cwa 1 (.int .i64 l[k].t) rfl
      have d0 := cwb 0 (.int .i64 l[k].f) rfl
      have d1 := cwb 1 (.int .i64 l[k].t) rfl
      rw [Nat.add_zero] at c0 d0
      generalize l[k].f = y at *
      generalize l[k].t = y2 at *
      clear cwa cwb hkp
      go_wp2_with fail
      refine wp_region_quiet_lit (by kernel_rfl) (by kernel_rfl) ?_
      try simp only [List.append]
      repeat (first | go_big_quiet_step (fail) | quiet_step (fail))
      refine wpQuiet_nil ?_
      intro W hW
      have hkW := kept_ex hW
      have HKW := Lib.hid (HKP.out.trans hkW)
      clear hkW hW
      go_wp2_with fail
      go_roundw
      case rel => exact ⟨k + 1, by go_num, by omega, HKW.out⟩
      case measure => simp [intOf]; omega
    · obtain rfl : k = l.length := by omega
      go_wp2_with fail
      go_ret
      exact ⟨rfl, hkp⟩
end Go.Proofs.Ytafielokhkoadaa
