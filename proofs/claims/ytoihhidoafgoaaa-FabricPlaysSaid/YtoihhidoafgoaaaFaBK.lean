/- Both fabrics (chapter 15): what shows asks. -/
import Derived.Test.YtoihhidoafgoaaaFaBJ
namespace Go.Proofs.Ytoihhidoafgoaaa
open Go.RowKit

section
variable {f B0 m N : Nat} {l : Fl} {s : Fs} {ml : Ml} {ms : Ms} {W0 w : World}
set_option maxRecDepth 100000 in
set_option maxHeartbeats 4000000 in
theorem fb_shows (h : Fb f B0 m l s ml ms W0 w) (hs : Fsim W0 N s ms) (hN : N ≤ 90000) : Calls Try.prog 28 #[.pointer (some ⟨f, 0, none⟩), .pointer (some ⟨m, 0, none⟩)] w fun e w' => e = .returned (.bool true) ∧ Below w.heap.size w w' := by
  have HB := Lib.hid h
  have HS := Lib.hid hs
  have hH : s.H = ms.H := hs.H.symm
  have hP : nP s.H s.S = nP ms.H ms.S := by rw [hs.H, hs.S]
  obtain ⟨hh1, hh2⟩ := h.fa.hs.h
  obtain ⟨hn1, hn2⟩ := h.fa.hs.np
  have HLO := Lib.hid hs.lost
  obtain ⟨q, hq⟩ : ∃ q, s.waitN + s.arrN = q := ⟨_, rfl⟩
  have HQ := Lib.hid hq
  have HWN := Lib.hid (show ms.waitN + ms.arrN = q by rw [← hq, hs.waitN, hs.arrN])
  clear hq
  have HLE := Lib.hid (hs.so.lens (show N ≤ 1000000 by omega))
  obtain ⟨l0, c0, c1, c2, c3⟩ := h.mf.cells
  rw [← hP] at c1
  rw [hs.lost] at c3
  have HPP := Lib.hid hP
  clear h hs hH hP
  go_enter Try.func28, Try.ntmps28
  go_upto_region 1 with fail
  have HD := Lib.hid (HB.out.below (below_dn (n := 1) (Below.refl _ w)))
  refine wp_run (M := (fun _ => False)) (stages [([true, false, true, true, true, true, true, false, false, false, false, false, false, false, false, false, false, false, false, false, false, false, false, false, false], 1), ([false, false, false, false, false, false, false, true, true, true, false, true, true, true, true, false, false, false, false, false, false, false, false, false, false], 10), ([false, false, false, false, false, false, false, false, false, false, false, false, false, false, false, true, true, true, true, false, true, false, false, false, false], 19), ([false, false, false, false, false, false, false, false, false, false, false, false, false, false, false, false, false, false, false, false, false, false, false, false, false], 21)] [false, false, false, false, false, false, false, false, false, false, false, false, false, false, false, false, false, false, false, false, false, false, true, true, true]) (by kernel_rfl) (by kernel_rfl) ?_
  refine run_stage rfl ?_
  simp only [pickAt]
  repeat (go_big_quiet_step (fail))
  refine wpQuiet_nil ?_
  refine run_want rfl ?_
  intro A hA
  go_simp
  refine (ports_fa HD.out.fa).mono ?_
  rintro e w4 ⟨rfl, rfl⟩
  refine hA _ _ (Kept.refl _ _) ?_
  try simp only [Act.put, List.setIfInBounds_toArray, List.set_cons_zero, List.set_cons_succ]
  clear A hA
  refine run_stage rfl ?_
  simp only [pickAt]
  repeat (go_big_quiet_step (fail))
  refine wpQuiet_nil ?_
  refine run_want rfl ?_
  intro A hA
  go_simp
  refine (lost_fa HD.out.fa).mono ?_
  rintro e w4 ⟨rfl, rfl⟩
  refine hA _ _ (Kept.refl _ _) ?_
  try simp only [Act.put, List.setIfInBounds_toArray, List.set_cons_zero, List.set_cons_succ]
  clear A hA
  refine run_stage rfl ?_
  simp only [pickAt]
  repeat (go_big_quiet_step (fail))
  refine wpQuiet_nil ?_
  refine run_want rfl ?_
  intro A hA
  go_simp
  have hem := empty_fa HD.out.fa HLE.out
  rw [HQ.out] at hem
  refine hem.mono ?_
  rintro e w4 ⟨rfl, k, rfl⟩
  refine hA _ _ (Kept.dn _ _ _) ?_
  try simp only [Act.put, List.setIfInBounds_toArray, List.set_cons_zero, List.set_cons_succ]
  clear A hA
  refine run_stage rfl ?_
  simp only [pickAt]
  repeat (go_big_quiet_step (fail))
  refine wpQuiet_nil ?_
  refine run_want rfl ?_
  intro A hA
  go_simp
  have HD2 := Lib.hid (HB.out.below (below_dn (n := 1 + k) (Below.refl _ w)))
  have hwa := mf_waits HD2.out.mf HS.out.mok (by omega)
  rw [HWN.out] at hwa
  refine hwa.mono ?_
  rintro e w4 ⟨rfl, hb4⟩
  have HB4 := Lib.hid ((below_dn (n := 1 + k) (Below.refl w.heap.size w)).trans hb4)
  refine hA _ _ (Kept.of_below (show Below ((w.drewN 1).drewN k).heap.size ((w.drewN 1).drewN k) w4 by rw [World.drewN_drewN]; exact hb4)) ?_
  try simp only [Act.put, List.setIfInBounds_toArray, List.set_cons_zero, List.set_cons_succ]
  clear A hA
  clear hem hwa hb4
  refine run_last ?_
  simp only [pickAt]
  repeat (go_big_quiet_step (fail))
  refine wpQuiet_nil ?_
  have H4 := Lib.hid (HB.out.below HB4.out)
  clear HD HD2 l0 c0 c1 c2 c3
  go_wp2_with fail
  go_loopw [5] (fun i wr => ∃ j : Nat, j ≤ nP s.H s.S ∧ i = .int .i64 j ∧ Below w.heap.size w wr) (fun i _ => nP s.H s.S - (intOf i).toNat)
  case atStart => exact ⟨0, by omega, rfl, HB4.out⟩
  case round =>
    obtain ⟨j, hj, rfl, hb⟩ := hrel
    have H5 := Lib.hid (HB.out.below hb)
    have HB5 := Lib.hid hb
    clear hb H4
    rename World => wi
    obtain ⟨l0, c0, c1, c2, c3⟩ := H5.out.mf.cells
    rw [← HPP.out] at c1
    clear c0 c2 c3
    by_cases hlt : j < nP s.H s.S
    · obtain ⟨p0, p1, p2, p3⟩ := H5.out.mf.pcell
      have hltm : j < nP ms.H ms.S := by rw [← HPP.out]; exact hlt
      have pk := p3 j hltm
      rw [← HPP.out] at p1
      have HW := Lib.hid (HS.out.p j hlt).waits.len
      clear p3
      go_upto_region 6 with fail
      have HD := Lib.hid (H5.out.below (below_dn (n := 1) (Below.refl _ wi)))
      refine wp_run (M := (fun _ => False)) (stages [([true, true, false, true, true, true, true, true, true, true, false, false, false], 2), ([false, false, false, false, false, false, false, false, false, false, false, false, false], 10)] [false, false, false, false, false, false, false, false, false, false, false, true, true]) (by kernel_rfl) (by kernel_rfl) ?_
      refine run_stage rfl ?_
      simp only [pickAt]
      repeat (go_big_quiet_step (fail))
      refine wpQuiet_nil ?_
      refine run_want rfl ?_
      intro A hA
      go_simp
      have hwy := waiting_yes HD.out.fa HLE.out hlt
      rw [HW.out] at hwy
      refine hwy.mono ?_
      rintro e w4 ⟨rfl, k, rfl⟩
      refine hA _ _ (Kept.dn _ _ _) ?_
      try simp only [Act.put, List.setIfInBounds_toArray, List.set_cons_zero, List.set_cons_succ]
      clear A hA
      refine run_stage rfl ?_
      simp only [pickAt]
      repeat (go_big_quiet_step (fail))
      refine wpQuiet_nil ?_
      refine run_want rfl ?_
      intro A hA
      go_simp
      have HD2 := Lib.hid (H5.out.below (below_dn (n := 1 + k) (Below.refl _ wi)))
      refine (mwait _ _ _ _ N _ (HD2.out.mf.po j hltm) (HS.out.mok.p j hltm) (by omega)).mono ?_
      rintro e w4 ⟨v, rfl, hov, hb4⟩
      obtain ⟨av, cv, rfl, _, _⟩ := (Rd.of_own hov).form
      have B4 := Lib.hid (HB5.out.trans (((below_dn (n := 1 + k) (Below.refl wi.heap.size wi)).trans hb4).mono HB5.out.size))
      refine hA _ _ (Kept.of_below (show Below ((wi.drewN 1).drewN k).heap.size ((wi.drewN 1).drewN k) w4 by rw [World.drewN_drewN]; exact hb4)) ?_
      try simp only [Act.put, List.setIfInBounds_toArray, List.set_cons_zero, List.set_cons_succ]
      clear A hA
      clear hwy hov hb4
      refine run_last ?_
      simp only [pickAt]
      repeat (go_big_quiet_step (fail))
      refine wpQuiet_nil ?_
      clear l0 c1 p0 p1 p2 pk HD HD2 HW
      go_wp2_with fail
      go_roundw
      case rel => exact ⟨j + 1, by omega, by go_num, B4.out⟩
      case measure => simp [intOf]; omega
    · obtain rfl : j = nP s.H s.S := by omega
      go_wp2_with fail
      clear l0 c1
      go_loopw [6, 7, 8] (fun i _ _ wr => ∃ j : Nat, j ≤ s.H ∧ i = .int .i64 j ∧ Below w.heap.size w wr) (fun i _ _ _ => s.H - (intOf i).toNat)
      case atStart => exact ⟨0, by omega, rfl, HB5.out⟩
      case round =>
        obtain ⟨j, hj, rfl, hb⟩ := hrel
        have H6 := Lib.hid (HB.out.below hb)
        have HB6 := Lib.hid hb
        clear hb
        rename World => wj
        obtain ⟨l0, c0, c1, c2, c3⟩ := H6.out.mf.cells
        obtain ⟨n0, n1, n2, n3⟩ := H6.out.mf.net.cells
        have hHm := HS.out.H
        rw [hHm] at c2 n1
        clear c1 c3 n2 n3
        by_cases hlt : j < s.H
        · have hltm : j < ms.H := by rw [hHm]; exact hlt
          have HLM := Lib.hid hltm
          clear hltm hHm
          go_wp2_with fail
          refine (arrived_yes H6.out.fa hlt HS.out.so (by omega)).mono ?_
          rintro e w6 ⟨v, rfl, ⟨Y, hY, hov, hdY⟩, hb6⟩
          obtain ⟨av, cv, rfl, hv1, hv2⟩ := (Rd.of_own hov).form
          have H7 := Lib.hid (H6.out.below hb6)
          have HB7 := Lib.hid (HB6.out.trans (hb6.mono HB6.out.size))
          have HLY := Lib.hid (show Like Y (ms.A j) from hY.trans (HS.out.a j hlt))
          have hyl := HLY.out.len
          have hmle := HS.out.mok.a j HLM.out
          obtain ⟨M, hM⟩ : ∃ M, Hid (ms.A j = M) := ⟨_, Lib.hid rfl⟩
          rw [hM.out] at HLY hyl hmle
          have OV := Lib.hid hov
          have DY := Lib.hid hdY
          clear hY hov hdY hb6 l0 c0 c2 n0 n1
          obtain ⟨l0, c0, c1, c2, c3⟩ := H7.out.mf.cells
          obtain ⟨la, ca, fa⟩ := H7.out.mf.acell
          rw [HS.out.H] at c2
          have hrow := H7.out.mf.rows j HLM.out
          obtain ⟨bv, dv, hbv, hb1, hb2⟩ := hrow.form
          have caj := (ca j HLM.out).trans (congrArg some hbv)
          rw [hM.out, ← hyl] at caj hb1
          have HBV := Lib.hid hbv
          clear c0 c1 c3 ca fa hbv hrow
          rw [← hyl] at hmle
          have HYL := Lib.hid hyl
          clear hyl
          obtain ⟨q, hq⟩ : ∃ q, byN (j : Int) s.P (nP s.H s.S) = q := ⟨_, rfl⟩
          have hby := bytes_yes H7.out.fa hlt HS.out.so (by omega)
          have HBQ := Lib.hid (show mbyN (j : Int) ms.P (nP ms.H ms.S) = q by rw [← HPP.out, ← HS.out.byN j _ (Nat.le_refl _), hq])
          rw [hq] at hby
          clear hq
          go_wp2_with fail
          refine hby.mono ?_
          rintro e w7 ⟨rfl, hb7⟩
          have H8 := Lib.hid (H7.out.below hb7)
          have B78 := Lib.hid hb7
          have hmb := mf_bytes H8.out.mf (k := j) HS.out.mok (by omega)
          rw [HBQ.out] at hmb
          clear hby hb7
          go_wp2_with fail
          refine (hmb).mono ?_
          rintro e w8 ⟨rfl, hb8⟩
          have H9 := Lib.hid (H8.out.below hb8)
          have B68 := Lib.hid (B78.out.trans (hb8.mono B78.out.size))
          have HB9 := Lib.hid (HB7.out.trans (B68.out.mono HB7.out.size))
          have OV9 := Lib.hid (below_own OV.out B68.out)
          have DY9 := Lib.hid (fun y hy => (DY.out y hy).kept (Kept.of_below (M := fun _ => False) B68.out) (fun _ _ h => h))
          clear hmb hb8 l0 c2 la caj
          go_wp2_with fail
          go_loopw [8] (fun i wr => ∃ j2 : Nat, j2 ≤ Y.length ∧ i = .int .i64 j2 ∧ Below w8.heap.size w8 wr) (fun i _ => Y.length - (intOf i).toNat)
          case atStart => exact ⟨0, by omega, rfl, Below.refl _ _⟩
          case round =>
            obtain ⟨j2, hj2, rfl, hb9⟩ := hrel
            have B9 := Lib.hid hb9
            have HA := Lib.hid (H9.out.below hb9)
            clear hb9
            rename World => wk
            by_cases hlt2 : j2 < Y.length
            · obtain ⟨g, o, hgo, hg, hc⟩ := (Rd.of_own (below_own OV9.out B9.out)).row rowFr (by decide) j2 hlt2
              cases hgo
              obtain ⟨hlt3, hpl⟩ := HLY.out.nth j2 hlt2
              have hmem : M[j2] ∈ ms.A j := by rw [hM.out]; exact List.getElem_mem hlt3
              have hdi := HS.out.ad j hlt M[j2] hmem
              have hda := (DY9.out _ (List.getElem_mem hlt2)).kept (Kept.of_below (M := fun _ => False) B9.out) (fun _ _ h => h)
              have AL := Lib.hid (alike_it hpl hda hdi HA.out.bel)
              obtain ⟨l0, c0, c1, c2, c3⟩ := HA.out.mf.cells
              obtain ⟨la, ca, fa⟩ := HA.out.mf.acell
              rw [HS.out.H] at c2
              have hrow := HA.out.mf.rows j HLM.out
              have caj := (ca j HLM.out).trans (congrArg some HBV.out)
              rw [HBV.out, hM.out] at hrow
              rw [hM.out, ← HYL.out] at caj
              obtain ⟨g2, o2, hgo2, hg2, hc2⟩ := hrow.rd.row rowFr (by decide) j2 hlt3
              cases hgo2
              generalize Y[j2] = y at hc AL
              generalize M[j2] = x at hc2 AL
              have cy0 := hc 0 _ rfl
              have cy1 := hc 1 _ rfl
              have cy2 := hc 2 _ rfl
              have cy3 := hc 3 _ rfl
              have cy4 := hc 4 _ rfl
              have cy5 := hc 5 _ rfl
              have cy6 := hc 6 _ rfl
              have cy7 := hc 7 _ rfl
              have cy8 := hc 8 _ rfl
              have cy9 := hc 9 _ rfl
              rw [Nat.add_zero] at cy0
              have cx0 := hc2 0 _ rfl
              have cx1 := hc2 1 _ rfl
              have cx2 := hc2 2 _ rfl
              have cx3 := hc2 3 _ rfl
              have cx4 := hc2 4 _ rfl
              have cx5 := hc2 5 _ rfl
              have cx6 := hc2 6 _ rfl
              have cx7 := hc2 7 _ rfl
              have cx8 := hc2 8 _ rfl
              have cx9 := hc2 9 _ rfl
              rw [Nat.add_zero] at cx0
              clear hc hc2 hrow ca fa c0 c1 c3 hmem hdi hda hpl hlt3
              go_upto_region 17 with fail
              refine wp_run (M := (fun _ => False)) (stages [([true, true, true, true, true, true, true, true, true, true, true, true, true, true, false, false], 14)] [false, false, false, false, false, false, false, false, false, false, false, false, false, false, false, true]) (by kernel_rfl) (by kernel_rfl) ?_
              refine run_stage rfl ?_
              simp only [pickAt]
              repeat (go_big_quiet_step (fail))
              refine wpQuiet_nil ?_
              refine run_want rfl ?_
              intro A hA
              go_simp
              have hal := AL.out wk.drew (below_dn (n := 1) (Below.refl _ wk))
              unfold It.frv at hal
              refine hal.mono ?_
              rintro e w9 ⟨rfl, hb9⟩
              have BA := Lib.hid (B9.out.trans (((below_dn (n := 1) (Below.refl wk.heap.size wk)).trans hb9).mono B9.out.size))
              refine hA _ _ (Kept.of_below hb9) ?_
              try simp only [Act.put, List.setIfInBounds_toArray, List.set_cons_zero, List.set_cons_succ]
              clear A hA
              clear hal hb9
              refine run_last ?_
              simp only [pickAt]
              repeat (go_big_quiet_step (fail))
              refine wpQuiet_nil ?_
              clear l0 c2 la caj cx0 cx1 cx2 cx3 cx4 cx5 cx6 cx7 cx8 cx9 cy0 cy1 cy2 cy3 cy4 cy5 cy6 cy7 cy8 cy9
              go_wp2_with fail
              go_roundw
              case rel => exact ⟨j2 + 1, by omega, by go_num, BA.out⟩
              case measure => simp [intOf]; omega
            · obtain rfl : j2 = Y.length := by omega
              have HBA := Lib.hid (HB9.out.trans (B9.out.mono HB9.out.size))
              go_wp2_with fail
              go_roundw
              case rel => exact ⟨j + 1, by omega, by go_num, HBA.out⟩
              case measure => simp [intOf]; omega
        · obtain rfl : j = s.H := by omega
          clear hHm
          go_wp2_with fail
          go_ret
          exact ⟨rfl, HB6.out⟩
end
end Go.Proofs.Ytoihhidoafgoaaa
