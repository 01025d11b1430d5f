/- A set of ranges (chapter 5): its gaps. -/
import Derived.Test.YtkogodoaejoooaaIvC
import Derived.Deep.CutBlock
namespace Go.Proofs.Ytkogodoaejoooaa
open Go.RowKit

set_option maxRecDepth 100000 in
set_option maxHeartbeats 4000000 in
theorem gaps_iv (b B0 : Nat) (V : Value) (s : Is) (u m : Int) (w : World) (h : Iv b B0 V s w) (hn : s.l.length ≤ 100000) : Calls Try.prog 23 #[.pointer (some ⟨b, 0, none⟩), .int .i64 u, .int .i64 m] w fun e w' => ∃ v', e = .returned v' ∧ w'.ownsRow w.heap.size TR 2 v' (gp (min u s.tot) m (s.l ++ [⟨s.tot, s.tot⟩]) 0 []).length ((gp (min u s.tot) m (s.l ++ [⟨s.tot, s.tot⟩]) 0 []).flatMap Rg.row) ∧ Below w.heap.size w w' := by
  have HI := Lib.hid h
  obtain ⟨a, c, hv, _, _⟩ := (Rd.of_own h.own).form
  have HV := Lib.hid hv
  obtain ⟨lb, cb, fb⟩ := h.ob.blk
  have c0 : w.cell? ⟨b, 0, none⟩ = some (.int .i64 s.tot) := cb 0
  have c1 : w.cell? ⟨b, 1, none⟩ = some (.slice a s.l.length c) := by rw [cb 1, hv]; rfl
  obtain ⟨L, HL⟩ : ∃ L, Hid (s.l ++ [(⟨s.tot, s.tot⟩ : Rg)] = L) := ⟨_, Lib.hid rfl⟩
  obtain ⟨U, HU⟩ : ∃ U, Hid (min u s.tot = U) := ⟨_, Lib.hid rfl⟩
  rw [HL.out, HU.out]
  clear cb hv h
  go_enter Try.func23, Try.ntmps23
  go_upto_region 5 with fail
  go_cut [34, 35, 36] from 19 (fun s34 s35 s36 wx => s35 = .int .i64 (s.l.length + 1 : Nat) ∧ s36 = .int .i64 0 ∧ wx.ownsRow w.heap.size TR 2 s34 (s.l.length + 1) ((s.l ++ [(⟨s.tot, s.tot⟩ : Rg)]).flatMap Rg.row) ∧ Below w.heap.size w wx)
  case first =>
    have nb := not_since lb
    have hfl : (s.l ++ [(⟨s.tot, s.tot⟩ : Rg)]).flatMap Rg.row = s.l.flatMap Rg.row ++ [.int .i64 s.tot, .int .i64 s.tot] := by rw [List.flatMap_append]; rfl
    have HFL := Lib.hid hfl
    have h1r := one_rg s.l
    clear hfl
    go_wp2_with fail
    refine wp_stands (M := (Since w.heap.size)) (by kernel_rfl) ?_
    refine st_quiet [true, true, true, true, false, true, true, true, true, true, true, true, true, true, false, false, false, true] (by kernel_rfl) ?_
    simp only [pickAt]
    repeat (go_big_quiet_step (fail))
    refine wpQuiet_nil ?_
    refine st_act2 4 14 rfl rfl (by kernel_rfl) ?_ ?_
    · refine run_want rfl ?_
      intro A hA
      go_simp
      have hrd := Rd.of_own (own_kept HI.out.own (Kept.drew (fun _ => False) w) (fun _ _ h => h))
      rw [HV.out] at hrd
      refine (clone_rg _ _ _ _ hrd h1r (by omega)).mono ?_
      rintro e w3 ⟨v', rfl, ho, hb⟩
      have HO3 := Lib.hid (own_kept ho ((Kept.refl (fun _ => False) w3).alloc (.cells #[.int .i64 s.tot, .int .i64 s.tot] TR)) (fun _ _ h => h))
      have HB3 := Lib.hid (((Below.refl w.heap.size w).drew.trans hb).alloc hb.size (.cells #[.int .i64 s.tot, .int .i64 s.tot] TR))
      have HR3 := Lib.hid (Rd.one (k := 2) w3 #[.int .i64 s.tot, .int .i64 s.tot] TR rfl)
      refine hA _ _ ((Kept.of_below hb)) ?_
      try simp only [Act.put, List.setIfInBounds_toArray, List.set_cons_zero, List.set_cons_succ]
      clear A hA
      clear ho hb hrd
      refine st_act 14 rfl (by kernel_rfl) ?_
      refine run_want rfl ?_
      intro A hA
      go_simp
      refine hA _ _ (((Kept.refl _ _).alloc _)) ?_
      try simp only [Act.put, List.setIfInBounds_toArray, List.set_cons_zero, List.set_cons_succ]
      clear A hA
      refine st_act 15 rfl (by kernel_rfl) ?_
      refine run_want rfl ?_
      intro A hA
      refine wp_appAt (.tmp 23) (.tmp 33) 38 (by rfl) info_rg Try.underlying38 rfl (by decide) HO3.out HR3.out (by rfl) (by rfl) (by simp [Value.oneCell']) (by omega) HB3.out.size ?_
      intro v4 w4 ho4 hg4 hb4
      have G4 := Kept.of_grown (M := Since w.heap.size) hg4 fun y hy => (HO3.out.lt y hy).1
      have HO4 := Lib.hid ho4
      have HB4 := Lib.hid (HB3.out.grown hg4 HB3.out.size (fun y hy => (HO3.out.lt y hy).1))
      obtain ⟨a4, c4, rfl, _, _⟩ := (Rd.of_own ho4).form
      refine hA _ _ (G4) ?_
      try simp only [Act.put, List.setIfInBounds_toArray, List.set_cons_zero, List.set_cons_succ]
      clear A hA
      clear ho4 hg4 hb4 G4
      refine st_quiet [false, false, false, false, false, false, false, false, false, false, false, false, false, false, false, false, true, false] (by kernel_rfl) ?_
      simp only [pickAt]
      repeat (go_big_quiet_step (fail))
      refine wpQuiet_nil ?_
      refine st_done (by kernel_rfl) ?_
      go_wp2_with fail
      go_meet
      exact ⟨rfl, rfl, by rw [HFL.out]; exact HO4.out, HB4.out⟩
    · refine run_want rfl ?_
      intro A hA
      go_simp
      have hrd := Rd.of_own (own_kept HI.out.own (((Kept.refl (fun _ => False) w).drewR).alloc (.cells #[.int .i64 s.tot, .int .i64 s.tot] TR)) (fun _ _ h => h))
      rw [HV.out] at hrd
      have HR2 := Lib.hid (Rd.one (k := 2) w.drew #[.int .i64 s.tot, .int .i64 s.tot] TR rfl)
      have HB2 := Lib.hid ((Below.refl w.heap.size w).drew.alloc (Nat.le_refl _) (.cells #[.int .i64 s.tot, .int .i64 s.tot] TR))
      refine hA _ _ (((Kept.refl _ _).alloc _)) ?_
      try simp only [Act.put, List.setIfInBounds_toArray, List.set_cons_zero, List.set_cons_succ]
      clear A hA
      refine st_act 4 rfl (by kernel_rfl) ?_
      refine run_want rfl ?_
      intro A hA
      go_simp
      refine (clone_rg _ _ _ _ hrd h1r (by omega)).mono ?_
      rintro e w3 ⟨v', rfl, ho, hb⟩
      have HO3 := Lib.hid (own_base ho HB2.out.size)
      have HB3 := Lib.hid (HB2.out.trans (hb.mono HB2.out.size))
      have HR3 := Lib.hid (HR2.out.below hb)
      refine hA _ _ ((Kept.of_below hb)) ?_
      try simp only [Act.put, List.setIfInBounds_toArray, List.set_cons_zero, List.set_cons_succ]
      clear A hA
      clear ho hb hrd
      refine st_act 15 rfl (by kernel_rfl) ?_
      refine run_want rfl ?_
      intro A hA
      refine wp_appAt (.tmp 23) (.tmp 33) 38 (by rfl) info_rg Try.underlying38 rfl (by decide) HO3.out HR3.out (by rfl) (by rfl) (by simp [Value.oneCell']) (by omega) HB3.out.size ?_
      intro v4 w4 ho4 hg4 hb4
      have G4 := Kept.of_grown (M := Since w.heap.size) hg4 fun y hy => (HO3.out.lt y hy).1
      have HO4 := Lib.hid ho4
      have HB4 := Lib.hid (HB3.out.grown hg4 HB3.out.size (fun y hy => (HO3.out.lt y hy).1))
      obtain ⟨a4, c4, rfl, _, _⟩ := (Rd.of_own ho4).form
      refine hA _ _ (G4) ?_
      try simp only [Act.put, List.setIfInBounds_toArray, List.set_cons_zero, List.set_cons_succ]
      clear A hA
      clear ho4 hg4 hb4 G4
      refine st_quiet [false, false, false, false, false, false, false, false, false, false, false, false, false, false, false, false, true, false] (by kernel_rfl) ?_
      simp only [pickAt]
      repeat (go_big_quiet_step (fail))
      refine wpQuiet_nil ?_
      refine st_done (by kernel_rfl) ?_
      go_wp2_with fail
      go_meet
      exact ⟨rfl, rfl, by rw [HFL.out]; exact HO4.out, HB4.out⟩
  case rest =>
  obtain ⟨rfl, rfl, ho9, hb9⟩ := hcut
  obtain ⟨a9, c9, rfl, _, _⟩ := (Rd.of_own ho9).form
  have hLl : L.length = s.l.length + 1 := by rw [← HL.out]; simp
  rw [HL.out] at ho9
  rw [← hLl] at ho9
  rw [HU.out]
  have HR9 := Lib.hid ho9
  have HB9 := Lib.hid hb9
  have hLm : L.length ≤ 100001 := by omega
  rw [← hLl]
  have HLL := Lib.hid hLl
  have sz := hb9.size
  clear ho9 hb9 hLl c0 c1 lb fb
  go_wp2_with fail
  go_loopw [6, 7, 36] (fun D a7 i9 wr => ∃ (k : Nat) (A : Int) (O : List Rg), i9 = .int .i64 k ∧ a7 = .int .i64 A ∧ k ≤ L.length ∧ O.length ≤ k ∧ Hid (gp U m (L.drop k) A O = gp U m L 0 []) ∧ wr.ownsRow w.heap.size TR 2 D O.length (O.flatMap Rg.row) ∧ wr.ownsRow w.heap.size TR 2 (.slice a9 L.length c9) L.length (L.flatMap Rg.row) ∧ (∀ x, D.ownBlock = some x → (Value.slice a9 L.length c9).ownBlock ≠ some x) ∧ Below w.heap.size w wr) (fun _ _ i _ => L.length - (intOf i).toNat)
  case atStart => exact ⟨0, 0, [], rfl, rfl, Nat.zero_le _, Nat.le_refl _, Lib.hid rfl, World.ownsRow_nil _ _ _ _, HR9.out, fun x hx => (by cases hx), HB9.out⟩
  case round =>
    obtain ⟨k, A, O, rfl, rfl, hk, hOk, HG, hd, hr, hap, hb⟩ := hrel
    have HD := Lib.hid hd
    have HR := Lib.hid hr
    have HAP := Lib.hid hap
    have HB := Lib.hid hb
    have sz := hb.size
    obtain ⟨ad, cd, rfl, _, _⟩ := (Rd.of_own hd).form
    clear hd hr hap hb HR9 HB9
    by_cases hlt : k < L.length
    · have hgp : Hid (gp U m (L.drop (k + 1)) L[k].t (if A < min L[k].f U ∧ (O.length : Int) < m then O ++ [⟨A, min L[k].f U⟩] else O) = gp U m L 0 []) := Lib.hid (by
        rw [← HG.out, List.drop_eq_getElem_cons hlt]; rfl)
      obtain ⟨g, o, rfl, hg, cwa⟩ := Rd.row rowRg (by decide) (Rd.of_own HR.out) k hlt
      have c0 := cwa 0 (.int .i64 L[k].f) rfl
      have c2 := cwa 1 (.int .i64 L[k].t) rfl
      rw [Nat.add_zero] at c0
      generalize L[k].f = rf at *
      generalize L[k].t = rt at *
      clear cwa
      go_upto_region 8 with fail
      have OX := Lib.hid (Ob.new wr #[.int .i64 rf, .int .i64 rt] TR)
      have HKa := (Kept.refl (fun _ => False) wr).alloc (.cells #[.int .i64 rf, .int .i64 rt] TR)
      have HD1 := Lib.hid (own_kept HD.out HKa (fun _ _ h => h))
      have HR1 := Lib.hid (own_kept HR.out HKa (fun _ _ h => h))
      have HB1 := Lib.hid (HB.out.alloc sz (.cells #[.int .i64 rf, .int .i64 rt] TR))
      have hDX : ∀ x, (Value.slice ad O.length cd).ownBlock = some x → x < wr.heap.size := fun x hx => (own_lt HD.out x hx).2
      have hRX := fun x hx => (own_lt HR.out x hx).2
      clear c0 c2 HD HR HB HKa
      generalize wr.alloc (.cells #[.int .i64 rf, .int .i64 rt] TR) = w1 at *
      obtain ⟨lx, cx, fx⟩ := OX.out.blk
      have c0 : w1.cell? ⟨wr.heap.size, 0, none⟩ = some (.int .i64 rf) := cx 0
      have c2 : w1.cell? ⟨wr.heap.size, 1, none⟩ = some (.int .i64 rt) := cx 1
      clear cx
      by_cases hc : A < min rf U ∧ (O.length : Int) < m
      · have hgp' := hgp.out
        rw [if_pos hc] at hgp'
        have HGP := Lib.hid hgp'
        clear hgp hgp'
        obtain ⟨hc1, hc2⟩ := hc
        have HD2 := Lib.hid (own_kept HD1.out ((Kept.refl (fun _ => False) w1).alloc (.cells #[.int .i64 A, .int .i64 (min rf U)] TR)) (fun _ _ h => h))
        have HS2 := Lib.hid (Rd.one (k := 2) w1 #[.int .i64 A, .int .i64 (min rf U)] TR rfl)
        have HB2 := Lib.hid (HB1.out.alloc HB1.out.size (.cells #[.int .i64 A, .int .i64 (min rf U)] TR))
        have HR2 := Lib.hid (own_kept HR1.out ((Kept.refl (fun _ => False) w1).alloc (.cells #[.int .i64 A, .int .i64 (min rf U)] TR)) (fun _ _ h => h))
        go_wp2_with (at_builtin; refine wpList_appAt rfl (.tmp 53) (.tmp 57) 38 rfl info_rg Try.underlying38 rfl (by decide) HD2.out HS2.out rfl rfl (by simp [Value.oneCell']) (by omega) HB2.out.size ?_; intro v3 w3 ho3 hg3 hb3; have G3 := Kept.of_grown (M := Lk (.slice ad O.length cd)) hg3 fun y hy => hy; have HO3 := Lib.hid ho3; have HG3 := Lib.hid hg3; have HB3 := Lib.hid hb3; have OX3 := Lib.hid ((OX.out.alloc (.cells #[.int .i64 A, .int .i64 (min rf U)] TR)).kept G3 (fun hh => Nat.lt_irrefl _ (hDX _ hh))); have HK3 := Lib.hid G3; have lx3 := OX3.out.lt; have c23 : w3.cell? ⟨wr.heap.size, 1, none⟩ = some (.int .i64 rt) := OX3.out.blk.2.1 1; clear ho3 hg3 hb3 G3)
        go_roundw
        case rel =>
          refine ⟨k + 1, rt, O ++ [⟨A, min rf U⟩], by go_num, rfl, by omega, by rw [List.length_append]; simp; omega, HGP, ?_, own_kept HR2.out HK3.out (fun x hx hh => HAP.out x hh hx), fun x hx hh => ?_, HB2.out.grown HG3.out HB2.out.size (fun y hy => (HD2.out.lt y hy).1)⟩
          · have h := HO3.out
            rw [show (O ++ [(⟨A, min rf U⟩ : Rg)]).length = O.length + 1 by simp, show (O ++ [(⟨A, min rf U⟩ : Rg)]).flatMap Rg.row = O.flatMap Rg.row ++ [.int .i64 A, .int .i64 (min rf U)] by rw [List.flatMap_append]; rfl]
            exact h
          · rcases HB3.out with h | h
            · exact HAP.out x (by rw [← h]; exact hx) hh
            · rw [h] at hx
              injection hx with hx
              have h1 := hRX x hh
              have h2 := OX.out.lt
              rw [World.size_alloc] at hx
              omega
        case measure => simp [intOf]; omega
      · have hgp' := hgp.out
        rw [if_neg hc] at hgp'
        have HGP := Lib.hid hgp'
        clear hgp hgp'
        rcases (by omega : ¬ (A < min rf U) ∨ (A < min rf U ∧ ¬ ((O.length : Int) < m))) with h1 | ⟨h1, h2⟩
        iterate 2
          · first
              | (have hd2 : decide ((O.length : Int) < m) = false := decide_eq_false h2)
              | (have hd1 : decide (A < min rf U) = false := decide_eq_false h1)
            clear hc
            go_wp2_with fail
            go_roundw
            case rel => exact ⟨k + 1, rt, O, by go_num, rfl, by omega, by omega, HGP, HD1.out, HR1.out, HAP.out, HB1.out⟩
            case measure => simp [intOf]; omega
    · obtain rfl : k = L.length := by omega
      have hg := HG.out
      rw [List.drop_length] at hg
      have HG' : Hid (O = gp U m L 0 []) := Lib.hid hg
      clear hg
      go_wp2_with fail
      go_ret
      exact ⟨_, rfl, by rw [← HG'.out]; exact HD.out, HB.out⟩
end Go.Proofs.Ytkogodoaejoooaa
