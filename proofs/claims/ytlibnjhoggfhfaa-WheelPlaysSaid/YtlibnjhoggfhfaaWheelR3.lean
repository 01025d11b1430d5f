/- The reference's wheel (chapter 2): Cancel. -/
import Derived.Test.YtlibnjhoggfhfaaWheelR2
import Derived.Test.YtlibnjhoggfhfaaWheelCa
namespace Go.Proofs.Ytlibnjhoggfhfaa
open Go.RowKit

set_option maxRecDepth 100000 in
set_option maxHeartbeats 4000000 in
theorem rcancel (b B0 : Nat) (V : Value) (s : Wl) (id : Int) (w : World) (h : Wh TRW TRD b B0 V s w) (ho : s.ok) :
    Calls Try.prog 16 #[.pointer (some ⟨b, 0, none⟩), .int .i64 id] w fun e w' => e = .returned (.int .i64 (if s.l.any (fun y => y.id == id) = true then 0 else 5)) ∧ WhPost TRW TRD b B0 V (s.less id) w w' := by
  have HW := Lib.hid h
  have HO := Lib.hid ho
  clear h ho
  obtain ⟨a, c, hv, _, _⟩ := (Rd.of_own HW.out.own).form
  have HV := Lib.hid hv
  clear hv
  obtain ⟨lb, cb, fb⟩ := HW.out.ob.blk
  have c3 : w.cell? ⟨b, 3, none⟩ = some (.slice a s.l.length c) := by rw [cb 3, HV.out]; rfl
  clear cb
  have hrd := Rd.of_own HW.out.own
  rw [HV.out] at hrd
  have HRD := Lib.hid hrd
  clear hrd
  have hlen : s.l.length ≤ 100000 := by have := HO.out.ln; have := HO.out.a1; omega
  obtain ⟨ans, HANS⟩ : ∃ ans : Int, Hid ((if s.l.any (fun y => y.id == id) = true then 0 else 5) = ans) := ⟨_, Lib.hid rfl⟩
  rw [HANS.out]
  go_enter Try.func16, Try.ntmps16
  go_wp2_with fail
  go_loopw [5] (fun i wr => ∃ k : Nat, i = .int .i64 k ∧ k ≤ s.l.length ∧ Hid (∀ y ∈ s.l.take k, (y.id == id) = false) ∧ w = wr) (fun i _ => s.l.length - (intOf i).toNat)
  case atStart => exact ⟨0, rfl, Nat.zero_le _, Lib.hid (fun y hy => by simp at hy), rfl⟩
  case round =>
    obtain ⟨k, rfl, hk, HB, rfl⟩ := hrel
    rcases Nat.lt_or_ge k s.l.length with hlt | hge
    · obtain ⟨g, o, rfl, hg, cwa⟩ := Rd.row rowDu (by decide) HRD.out k hlt
      have c1 := cwa 1 (.int .i64 s.l[k].id) rfl
      obtain ⟨di, HDI⟩ : ∃ di : Int, Hid (s.l[k].id = di) := ⟨_, Lib.hid rfl⟩
      rw [HDI.out] at c1
      clear cwa
      rcases Int.decEq di id with hne | heq
      · have hb : (di == id) = false := by simpa using hne
        go_wp2_with fail
        go_roundw
        case rel =>
          refine ⟨k + 1, by go_num, by omega, Lib.hid (fun y hy => ?_), trivial⟩
          rw [List.take_succ_eq_append_getElem hlt] at hy
          rcases List.mem_append.1 hy with hy | hy
          · exact HB.out y hy
          · rw [List.mem_singleton] at hy; subst hy; rw [HDI.out]; exact hb
        case measure => simp [intOf]; omega
      · subst heq
        obtain ⟨e1, e2⟩ := erase_at (p := fun y => y.id == di) ⟨hlt, by rw [HDI.out]; simp⟩ HB.out
        have H1 := Lib.hid e1
        have H2 : Hid (ans = 0) := Lib.hid (by rw [← HANS.out, e2]; rfl)
        clear e1 e2
        have h1t := one_du (l := s.l.take k) (fun x hx => HO.out.one x (List.mem_of_mem_take hx))
        have h1d := one_du (l := s.l.drop (k + 1)) (fun x hx => HO.out.one x (List.mem_of_mem_drop hx))
        have hkw : IntKind.i64.wrap ((k : Int) + 1) = ((k + 1 : Nat) : Int) := by rw [IntKind.wrap_i64]; omega
        have nb := not_since lb
        have hdd : (di == di) = true := by simp
        go_wp2_with fail
        refine wp_heads (M := (Since w.heap.size)) 19 (by kernel_rfl) (by kernel_rfl) ?_
        refine hd_quiet [true, false, true, true, true, true, true, true, false, true, true, true, true, true, true, true, false, false, false, false] (by kernel_rfl) ?_
        simp only [pickAt]
        repeat (go_big_quiet_step (fail))
        refine wpQuiet_nil ?_
        refine hd_act 1 rfl (by kernel_rfl) ?_
        refine run_want rfl ?_
        intro A hA
        go_simp
        have O9 := Lib.hid (World.ownsRow_made (base := w.heap.size) (e := TRD) (size := 3) w.drew #[] 0 (by simp) (by decide) rfl)
        have K9 := Lib.hid (((Kept.refl (fun _ => False) w).drewR).alloc (.cells #[] TRD))
        have R9 := Lib.hid ((rd_tokD ((HRD.out.keptF (Kept.drew (fun _ => False) w))) k (by omega)).alloc (.cells #[] TRD))
        refine hA _ _ ((Kept.refl _ _).alloc _) ?_
        try simp only [Act.put, List.setIfInBounds_toArray, List.set_cons_zero, List.set_cons_succ]
        clear A hA
        refine hd_quiet [false, false, false, false, false, false, false, false, false, false, false, false, false, false, false, false, false, false, false, false] (by kernel_rfl) ?_
        simp only [pickAt]
        repeat (go_big_quiet_step (fail))
        refine wpQuiet_nil ?_
        refine hd_act 8 rfl (by kernel_rfl) ?_
        refine run_want rfl ?_
        intro A hA
        refine wp_appAt (.tmp 26) (.tmp 32) 42 (by rfl) info_red Try.underlying42 rfl (by decide) O9.out R9.out (by rfl) (by rfl) h1t (by omega) K9.out.size ?_
        intro v10 w10 ho10 hg10 hb10
        have G10 := Kept.of_grown (M := Since w.heap.size) hg10 fun y hy => (O9.out.lt y hy).1
        have K10 := Lib.hid ((kept_any (M := Since w.heap.size) K9.out).trans G10)
        have HO10 := Lib.hid ho10
        refine hA _ _ (G10) ?_
        try simp only [Act.put, List.setIfInBounds_toArray, List.set_cons_zero, List.set_cons_succ]
        clear A hA
        clear ho10 hg10 hb10 G10
        have hVW : ∀ x, V.ownBlock = some x → x < w.heap.size := fun x hx => (own_lt HW.out.own x hx).2
        have hrd10 := Rd.of_own (own_kept HW.out.own K10.out (fun y hy (hh : w.heap.size ≤ y) => by have := hVW y hy; omega))
        rw [HV.out] at hrd10
        have R11 := Lib.hid ((rd_behindD hrd10 (k + 1) (by omega)))
        clear hrd10
        refine hd_quiet [false, false, false, false, false, false, false, false, false, false, false, false, false, false, false, false, false, false, false, false] (by kernel_rfl) ?_
        simp only [pickAt]
        repeat (go_big_quiet_step (fail))
        refine wpQuiet_nil ?_
        refine hd_act 16 rfl (by kernel_rfl) ?_
        refine run_want rfl ?_
        intro A hA
        refine wp_appAt (.tmp 33) (.tmp 40) 42 (by rfl) info_red Try.underlying42 rfl (by decide) HO10.out R11.out (by rfl) (by rfl) h1d (by omega) K10.out.size ?_
        intro v12 w12 ho12 hg12 hb12
        have G12 := Kept.of_grown (M := Since w.heap.size) hg12 fun y hy => (HO10.out.lt y hy).1
        have K12 := Lib.hid (K10.out.trans G12)
        rw [Nat.zero_add, List.nil_append] at ho12
        obtain ⟨a12, c12, hv12, _, _⟩ := (Rd.of_own ho12).form
        subst hv12
        have HO12 := Lib.hid ho12
        refine hA _ _ (G12) ?_
        try simp only [Act.put, List.setIfInBounds_toArray, List.set_cons_zero, List.set_cons_succ]
        clear A hA
        clear ho12 hg12 hb12 G12
        clear c3 lb fb
        have ob12 := Lib.hid (HW.out.ob.kept K12.out nb)
        have HK12 := Lib.hid (kept_new (Kept.refl (WM b V) w) K12.out (Nat.le_refl _))
        obtain ⟨lb, cb, fb⟩ := ob12.out.blk
        have c3 : w12.cell? ⟨b, 3, none⟩ = some V := cb 3
        clear cb
        have HPL : Hid ((s.less di).l = s.l.take k ++ s.l.drop (k + 1)) := Lib.hid (by unfold Wl.less; rw [H1.out])
        have HP := Lib.hid (wh_store (s' := s.less di) HW.out HK12.out ob12.out (own_base HO12.out (by have := HW.out.bb; have := HW.out.ob.lt; omega)) (.inr fun x hx => (HO12.out.lt x hx).1)
          (by rw [HPL.out, List.flatMap_append]) (by rw [HPL.out, List.length_append, List.length_take, List.length_drop]; omega))
        refine hd_quiet [false, false, false, false, false, false, false, false, false, false, false, false, false, false, false, false, false, true, true, false] (by kernel_rfl) ?_
        simp only [pickAt]
        repeat (go_big_quiet_step (fail))
        refine wpQuiet_nil ?_
        refine hd_tail rfl (by kernel_rfl) ?_
        simp only [List.drop_succ_cons, List.drop_zero]
        go_wp2_with fail
        all_goals refine NoPanic.normal ?_
        all_goals go_wp2_with fail
        all_goals go_ret
        all_goals exact ⟨by rw [H2.out]; rfl, HP.out⟩
    · obtain rfl : k = s.l.length := by omega
      obtain ⟨e1, e2⟩ := erase_none (p := fun y => y.id == id) (l := s.l) (fun y hy => HB.out y (by rw [List.take_length]; exact hy))
      have H1 : Hid (s.less id = s) := Lib.hid (by unfold Wl.less; rw [e1])
      have H2 : Hid (ans = 5) := Lib.hid (by rw [← HANS.out, e2]; rfl)
      clear e1 e2
      go_wp2_with fail
      go_ret
      exact ⟨by rw [H2.out]; rfl, by rw [H1.out]; exact WhPost.same HW.out (Kept.refl _ _)⟩
end Go.Proofs.Ytlibnjhoggfhfaa
