/- The law's own comparisons (port, chapter 13): shows. -/
import Derived.Test.YthgkminjhpaakaaPoX
namespace Go.Proofs.Ythgkminjhpaakaa
open Go.RowKit

/-- the data of the document's items: the caller's -/
def Dat (W0 : World) (t : Mp) : Prop := ∀ x, t.has x → x.dn = x.bs.length ∧ Rd W0 1 (.slice x.da x.dn x.dc) x.dn (bcells x.bs)
theorem mem_mwaits {t : Mp} {x : It} (h : x ∈ t.waits) : t.has x := by
  rcases List.mem_append.1 h with h | h
  · obtain ⟨i, hi, h⟩ := wfrom_of h
    exact .inr ⟨i, hi, h⟩
  · exact .inl h
set_option maxRecDepth 100000 in
set_option maxHeartbeats 4000000 in
theorem shows_any (b B0 : Nat) (l : Pl) (p : Pp) (N m : Nat) (U : Nat → Value) (uc : Value) (t : Mp) (M : Nat) (W0 w : World) (h : Po b B0 l p w) (hm : Mo m U uc t w) (hs : Sim p t) (ho : p.ok N) (hN : N ≤ 100000) (hto : t.ok M) (hM : M ≤ 100000) (hd : Dat W0 t) (hb : Below W0.heap.size W0 w) : Calls Try.prog 26 #[.pointer (some ⟨b, 0, none⟩), .pointer (some ⟨m, 0, none⟩)] w fun e w' => e = .returned (.bool true) ∧ Below w.heap.size w w' := by
  have HP := Lib.hid h
  have HM := Lib.hid hm
  have HS := Lib.hid hs
  have HO := Lib.hid ho
  have HTO := Lib.hid hto
  have HD := Lib.hid hd
  have HB0 := Lib.hid hb
  have HU := Lib.hid (hs.sum ho hto)
  have HCL := Lib.hid hs.C.len
  clear h hm hs ho hto hd hb
  have hl := HO.out.lens (by omega)
  have HL := Lib.hid hl
  clear hl
  go_enter Try.func26, Try.ntmps26
  go_wp2_with fail
  refine (wait_pt b B0 l p w HP.out HL.out.1 HL.out.2 (fun x hx => (HO.out.items x hx).1)).mono ?_
  rintro e w2 ⟨v, rfl, ⟨Y, hY, hov, hdY⟩, hb2⟩
  obtain ⟨av, cv, rfl, _, _⟩ := (Rd.of_own hov).form
  have P2 := Lib.hid (HP.out.below hb2)
  have M2 := Lib.hid (HM.out.below hb2)
  have B2 := Lib.hid hb2
  have HYL := Lib.hid (show Like Y t.waits by have h1 := HS.out.waits; unfold Like at *; rw [hY, h1])
  have OY2 := Lib.hid hov
  have DY2 := Lib.hid hdY
  clear hY hov hdY hb2
  go_wp2_with fail
  refine (mwait m U uc t M w2 M2.out HTO.out hM).mono ?_
  rintro e w3 ⟨v3, rfl, how, hb3⟩
  obtain ⟨aw, cw, rfl, _, _⟩ := (Rd.of_own how).form
  have P3 := Lib.hid (P2.out.below hb3)
  have M3 := Lib.hid (M2.out.below hb3)
  have B3 := Lib.hid (B2.out.trans (hb3.mono B2.out.size))
  have OY3 := Lib.hid (own_kept OY2.out (Kept.of_below (M := fun _ => False) hb3) (fun _ _ h => h))
  have DY3 := Lib.hid (fun y hy => (DY2.out y hy).kept (Kept.of_below (M := fun _ => False) hb3) (fun _ _ h => h))
  have OW3 := Lib.hid how
  clear how hb3
  have lm := M3.out.ob.lt
  obtain ⟨a, c, hv, _, _⟩ := M3.out.cr.form
  have cl : w3.cell? ⟨m, 11, none⟩ = some (.slice a t.C.length c) := by rw [← hv]; exact (M3.out.ob.blk).2.1 11
  clear hv
  have hyl : Y.length = t.waits.length := HYL.out.len
  have hwl : t.waits.length ≤ 1000000 := by
    have h1 := wfrom_len t.L M HTO.out.len 8 (by decide)
    have h2 := HTO.out.clen
    unfold Mp.waits
    rw [List.length_append]
    omega
  obtain ⟨K, HK⟩ : ∃ K, Hid (t.waits.length = K) := ⟨_, Lib.hid rfl⟩
  rw [hyl, HK.out]
  rw [HK.out] at hwl
  clear hyl
  go_wp2_with fail
  refine wp_run (M := (fun _ => False)) (stages [([true, true, true, true, true, true, true, false, true, true, true, true, true, false, false, false, false, false, false, false, false, false], 7), ([false, false, false, false, false, false, false, false, false, false, false, false, false, true, true, true, true, false, true, false, false, false], 17), ([false, false, false, false, false, false, false, false, false, false, false, false, false, false, false, false, false, false, false, false, false, false], 19)] [false, false, false, false, false, false, false, false, false, false, false, false, false, false, false, false, false, false, false, false, true, true]) (by kernel_rfl) (by kernel_rfl) ?_
  refine run_stage rfl ?_
  simp only [pickAt]
  repeat (go_big_quiet_step (fail))
  refine wpQuiet_nil ?_
  refine run_want rfl ?_
  intro A hA
  go_simp
  refine (credits_pt b B0 l p _ (P3.out.keptF (Kept.drew _ _))).mono ?_
  rintro e w' ⟨rfl, rfl⟩
  rw [HCL.out]
  refine hA _ _ ((Kept.refl _ _)) ?_
  try simp only [Act.put, List.setIfInBounds_toArray, List.set_cons_zero, List.set_cons_succ]
  clear A hA
  refine run_stage rfl ?_
  simp only [pickAt]
  repeat (go_big_quiet_step (fail))
  refine wpQuiet_nil ?_
  refine run_want rfl ?_
  intro A hA
  go_simp
  refine (used_pt b B0 l p _ ?hp).mono ?_
  case hp => exact P3.out.keptF (Kept.drew _ _)
  rintro e w' ⟨rfl, rfl⟩
  rw [HU.out]
  refine hA _ _ ((Kept.refl _ _)) ?_
  try simp only [Act.put, List.setIfInBounds_toArray, List.set_cons_zero, List.set_cons_succ]
  clear A hA
  refine run_stage rfl ?_
  simp only [pickAt]
  repeat (go_big_quiet_step (fail))
  refine wpQuiet_nil ?_
  refine run_want rfl ?_
  intro A hA
  go_simp
  refine (mused m U uc t M _ (M3.out.keptF (Kept.drew _ _)) HTO.out hM).mono ?_
  rintro e w4 ⟨rfl, hb4⟩
  have K4 : Hid (Kept (fun _ => False) w3 w4) := Lib.hid ((Kept.drew _ w3).trans (Kept.of_below hb4))
  have B4 := Lib.hid (B3.out.trans (K4.out.below.mono B3.out.size))
  refine hA _ _ ((Kept.of_below hb4)) ?_
  try simp only [Act.put, List.setIfInBounds_toArray, List.set_cons_zero, List.set_cons_succ]
  clear A hA
  refine run_last ?_
  simp only [pickAt]
  repeat (go_big_quiet_step (fail))
  refine wpQuiet_nil ?_
  clear hb4 lm cl
  go_wp2_with fail
  go_loopw [7] (fun i wr => ∃ j : Nat, j ≤ K ∧ i = .int .i64 j ∧ Below w4.heap.size w4 wr) (fun i _ => K - (intOf i).toNat)
  case atStart => exact ⟨0, by omega, rfl, Below.refl _ _⟩
  case round =>
    obtain ⟨j, hj, rfl, hb⟩ := hrel
    have BJ := Lib.hid hb
    clear hb
    rename World => wj
    have KJ := Lib.hid (K4.out.trans (Kept.of_below (M := fun _ => False) BJ.out))
    by_cases hlt : j < K
    · have hY : j < Y.length := by rw [HYL.out.len, HK.out]; exact hlt
      have hW : j < t.waits.length := by rw [HK.out]; exact hlt
      obtain ⟨_, hpl⟩ := HYL.out.nth j hY
      have oy := own_kept OY3.out KJ.out (fun _ _ h => h)
      have ow := own_kept OW3.out KJ.out (fun _ _ h => h)
      have rdy := Rd.of_own oy
      rw [HYL.out.len] at rdy
      have dy := (DY3.out _ (List.getElem_mem hY)).kept KJ.out (fun _ _ h => h)
      obtain ⟨g, o, hgo, hg, hc⟩ := (Rd.of_own oy).row rowIt (by decide) j hY
      obtain ⟨g', o', hgo', hg', hc'⟩ := (Rd.of_own ow).row rowIt (by decide) j hW
      subst hgo
      subst hgo'
      have hdx := HD.out _ (mem_mwaits (List.getElem_mem hW))
      have hpl' : (Y[j]).plain = (t.waits[j]).plain := hpl
      obtain ⟨x, hx⟩ : ∃ x, t.waits[j] = x := ⟨_, rfl⟩
      obtain ⟨y, hy⟩ : ∃ y, Y[j] = y := ⟨_, rfl⟩
      have hc2 : ∀ i u, (y.row)[i]? = some u → wj.cell? ⟨g, o + j * 11 + i, none⟩ = some u := fun i u hi => hc i u (by show (It.row (Y[j]))[i]? = _; rw [hy]; exact hi)
      have hc2' : ∀ i u, (x.row)[i]? = some u → wj.cell? ⟨g', o' + j * 11 + i, none⟩ = some u := fun i u hi => hc' i u (by show (It.row (t.waits[j]))[i]? = _; rw [hx]; exact hi)
      rw [hx] at hdx hpl'
      rw [hy] at hpl' dy
      obtain ⟨a6, c6, hyx⟩ : ∃ a6 c6, y = x.data a6 c6 := ⟨_, _, plain_eq hpl'⟩
      subst hyx
      have cy0 : wj.cell? ⟨g, o + j * 11, none⟩ = some (.int .i64 x.kind) := hc2 0 _ rfl
      have cy1 : wj.cell? ⟨g, o + j * 11 + 1, none⟩ = some (.int .i64 x.src) := hc2 1 _ rfl
      have cy2 : wj.cell? ⟨g, o + j * 11 + 2, none⟩ = some (.int .i64 x.dst) := hc2 2 _ rfl
      have cy3 : wj.cell? ⟨g, o + j * 11 + 3, none⟩ = some (.int .i64 x.prio) := hc2 3 _ rfl
      have cy4 : wj.cell? ⟨g, o + j * 11 + 4, none⟩ = some (.int .u64 x.msg) := hc2 4 _ rfl
      have cy5 : wj.cell? ⟨g, o + j * 11 + 5, none⟩ = some (.int .i64 x.off) := hc2 5 _ rfl
      have cy6 : wj.cell? ⟨g, o + j * 11 + 6, none⟩ = some (.int .i64 x.len) := hc2 6 _ rfl
      have cy7 : wj.cell? ⟨g, o + j * 11 + 7, none⟩ = some (.int .i64 x.total) := hc2 7 _ rfl
      have cy8 : wj.cell? ⟨g, o + j * 11 + 8, none⟩ = some (.int .i64 x.num) := hc2 8 _ rfl
      have cy9 : wj.cell? ⟨g, o + j * 11 + 9, none⟩ = some (.slice a6 x.dn c6) := hc2 9 _ rfl
      have cy10 : wj.cell? ⟨g, o + j * 11 + 10, none⟩ = some (.int .i64 x.path) := hc2 10 _ rfl
      have cw0 : wj.cell? ⟨g', o' + j * 11, none⟩ = some (.int .i64 x.kind) := hc2' 0 _ rfl
      have cw1 : wj.cell? ⟨g', o' + j * 11 + 1, none⟩ = some (.int .i64 x.src) := hc2' 1 _ rfl
      have cw2 : wj.cell? ⟨g', o' + j * 11 + 2, none⟩ = some (.int .i64 x.dst) := hc2' 2 _ rfl
      have cw3 : wj.cell? ⟨g', o' + j * 11 + 3, none⟩ = some (.int .i64 x.prio) := hc2' 3 _ rfl
      have cw4 : wj.cell? ⟨g', o' + j * 11 + 4, none⟩ = some (.int .u64 x.msg) := hc2' 4 _ rfl
      have cw5 : wj.cell? ⟨g', o' + j * 11 + 5, none⟩ = some (.int .i64 x.off) := hc2' 5 _ rfl
      have cw6 : wj.cell? ⟨g', o' + j * 11 + 6, none⟩ = some (.int .i64 x.len) := hc2' 6 _ rfl
      have cw7 : wj.cell? ⟨g', o' + j * 11 + 7, none⟩ = some (.int .i64 x.total) := hc2' 7 _ rfl
      have cw8 : wj.cell? ⟨g', o' + j * 11 + 8, none⟩ = some (.int .i64 x.num) := hc2' 8 _ rfl
      have cw9 : wj.cell? ⟨g', o' + j * 11 + 9, none⟩ = some (.slice x.da x.dn x.dc) := hc2' 9 _ rfl
      have cw10 : wj.cell? ⟨g', o' + j * 11 + 10, none⟩ = some (.int .i64 x.path) := hc2' 10 _ rfl
      have HRX := Lib.hid (hdx.2.below (HB0.out.trans ((B4.out.trans (BJ.out.mono B4.out.size)).mono HB0.out.size)))
      have HRY : Hid (Rd wj 1 (.slice a6 x.dn c6) x.dn (bcells x.bs)) := Lib.hid (Rd.of_own dy)
      have hls := lsame x a6 c6 wj.drew hdx.1 (HRY.out.kept (Kept.drew (fun _ => False) wj) (fun _ _ _ _ h => h)) (HRX.out.kept (Kept.drew (fun _ => False) wj) (fun _ _ _ _ h => h))
      replace hls : Calls Try.prog 21 #[.agg #[.int .i64 x.kind, .int .i64 x.src, .int .i64 x.dst, .int .i64 x.prio, .int .u64 x.msg, .int .i64 x.off, .int .i64 x.len, .int .i64 x.total, .int .i64 x.num, .slice a6 x.dn c6, .int .i64 x.path], .agg #[.int .i64 x.kind, .int .i64 x.src, .int .i64 x.dst, .int .i64 x.prio, .int .u64 x.msg, .int .i64 x.off, .int .i64 x.len, .int .i64 x.total, .int .i64 x.num, .slice x.da x.dn x.dc, .int .i64 x.path]] wj.drew _ := hls
      clear hc hc' hc2 hc2' hx hy hpl hpl' hdx dy rdy oy ow hY hW
      go_wp2_with fail
      refine wp_run (M := (fun _ => False)) (stages [([true, true, true, true, true, true, true, true, false, false], 8)] [false, false, false, false, false, false, false, false, false, true]) (by kernel_rfl) (by kernel_rfl) ?_
      refine run_stage rfl ?_
      simp only [pickAt]
      repeat (go_big_quiet_step (fail))
      refine wpQuiet_nil ?_
      refine run_want rfl ?_
      intro A hA
      go_simp
      refine hls.mono ?_
      rintro e w5 ⟨rfl, hb5⟩
      have B5 := Lib.hid (BJ.out.drew.trans (hb5.mono BJ.out.size))
      refine hA _ _ (Kept.of_below hb5) ?_
      try simp only [Act.put, List.setIfInBounds_toArray, List.set_cons_zero, List.set_cons_succ]
      clear A hA
      refine run_last ?_
      simp only [pickAt]
      repeat (go_big_quiet_step (fail))
      refine wpQuiet_nil ?_
      clear hb5 hls
      go_wp2_with fail
      go_roundw
      case rel => exact ⟨j + 1, by omega, by go_num, B5.out⟩
      case measure => simp [intOf]; omega
    · obtain rfl : j = K := by omega
      go_wp2_with fail
      go_ret
      exact ⟨rfl, B4.out.trans (BJ.out.mono B4.out.size)⟩
end Go.Proofs.Ythgkminjhpaakaa
