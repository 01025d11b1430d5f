/- The law WireTrims (chapter 10), walked. -/
import Derived.Test.YtaddbbbdklialaaWireTr
namespace Go.Proofs.Ytaddbbbdklialaa
open Go.RowKit

set_option maxHeartbeats 16000000 in
set_option maxRecDepth 100000 in
theorem trims_any (f : Fr) (v : Value) (l : List UInt8) (vb : Value) (w : World) (hm : 0 ≤ f.msg) (h : Rd w 1 v f.data.length (bcells f.data)) (h' : Rd w 1 vb l.length (bcells l)) : Calls Try.prog 8 #[f.val v, vb] w (TrueBelow w) := by
  obtain ⟨v, cp, rfl, h1, h2⟩ := h.form
  obtain ⟨vb, cb, rfl, h3, h4⟩ := h'.form
  have HR := Lib.hid h
  have HL := Lib.hid h'
  clear h h'
  have BF := Lib.hid ((Below.refl w.heap.size w).alloc (Nat.le_refl _) (.cells #[.int .i64 f.kind, .int .i64 f.src, .int .i64 f.dst, .int .i64 f.prio, .int .u64 f.msg, .int .i64 f.off, .int .i64 f.len, .int .i64 f.total, .int .i64 f.num, .slice v f.data.length cp] 26))
  have OF := Lib.hid (Ob.new w #[.int .i64 f.kind, .int .i64 f.src, .int .i64 f.dst, .int .i64 f.prio, .int .u64 f.msg, .int .i64 f.off, .int .i64 f.len, .int .i64 f.total, .int .i64 f.num, .slice v f.data.length cp] 26)
  rcases (by omega : 2000 < f.data.length ∨ (f.data.length ≤ 2000 ∧ 2000 < l.length) ∨ (f.data.length ≤ 2000 ∧ l.length ≤ 2000)) with hl | ⟨hl, hl'⟩ | ⟨hl, hl'⟩
  iterate 2
    · unfold Fr.val
      go_enter Try.func8, Try.ntmps8
      go_wp2_with fail
      refine (awake_any _).mono ?_
      rintro e w2 ⟨rfl, hb⟩
      go_wp2_with fail
      go_ret
      exact ⟨rfl, BF.out.trans (hb.mono BF.out.size)⟩
  have HE := Lib.hid (fun W h => encode_ref f (.slice v f.data.length cp) hm W h)
  unfold Fr.val at HE ⊢
  go_enter Try.func8, Try.ntmps8
  go_wp2_with (go_at_call 22; refine (trim_any l _ _ (HL.out.below BF.out)).mono ?_)
  rintro e w1 ⟨⟨ht, v1, rfl, hr1⟩ | ⟨ht, rfl⟩, hb1⟩
  all_goals
    have B1 := Lib.hid (BF.out.trans (hb1.mono BF.out.size))
    have OF1 : Hid (Ob w1 w.heap.size _ _) := Lib.hid (OF.out.below hb1)
    have HT := Lib.hid ht
    clear hb1 ht
  · have R1 := Lib.hid hr1
    clear hr1
    have HTL := Lib.hid (show (encF (trimF (rdF l))).length = 26 by rw [enc_len]; rfl)
    have HTO := Lib.hid (ok_trim HT.out.1.2.1 HT.out.2)
    have HTG := Lib.hid (good_enc HTO.out)
    have HTR := Lib.hid (rd_enc HTO.out)
    obtain ⟨v1, c1, rfl, h5, h6⟩ := R1.out.form
    rw [HTL.out] at *
    have R1' : Hid (Rd w1 1 (.slice v1 26 c1) (encF (trimF (rdF l))).length (bcells (encF (trimF (rdF l))))) := by
      have h9 := R1.out
      have h10 := enc_len (trimF (rdF l))
      exact Lib.hid (by rw [show (encF (trimF (rdF l))).length = 26 by rw [enc_len]; rfl]; exact h9)
    clear R1 HTL
    have hD : l.drop 26 = (rdF l).data := rfl
    generalize hT : encF (trimF (rdF l)) = T at *
    clear hT
    go_wp2_with (go_at_call 11; refine (decode_ref l _ _ (HL.out.below B1.out) (by omega)).mono ?_)
    rintro e w2 ⟨⟨_, v2, rfl, hr2⟩ | ⟨hno, _⟩, hb2⟩
    rotate_left
    · exact absurd HT.out.1 hno
    rw [hD] at hr2
    clear hD
    have HKX := Lib.hid HT.out.2
    clear HT
    generalize hx : rdF l = x at *
    clear hx
    have R2 := Lib.hid hr2
    obtain ⟨v2, c2, rfl, h7, h8⟩ := R2.out.form
    have B2 := Lib.hid ((B1.out.trans (hb2.mono B1.out.size)).alloc (B1.out.trans (hb2.mono B1.out.size)).size (.cells #[.int .i64 x.kind, .int .i64 x.src, .int .i64 x.dst, .int .i64 x.prio, .int .u64 x.msg, .int .i64 x.off, .int .i64 x.len, .int .i64 x.total, .int .i64 x.num, .slice v2 x.data.length c2] 26))
    have OF2 := Lib.hid ((OF1.out.below hb2).alloc (.cells #[.int .i64 x.kind, .int .i64 x.src, .int .i64 x.dst, .int .i64 x.prio, .int .u64 x.msg, .int .i64 x.off, .int .i64 x.len, .int .i64 x.total, .int .i64 x.num, .slice v2 x.data.length c2] 26))
    have O2 := Lib.hid (Ob.new w2 #[.int .i64 x.kind, .int .i64 x.src, .int .i64 x.dst, .int .i64 x.prio, .int .u64 x.msg, .int .i64 x.off, .int .i64 x.len, .int .i64 x.total, .int .i64 x.num, .slice v2 x.data.length c2] 26)
    have D2 := Lib.hid (Rd.alloc R2.out (.cells #[.int .i64 x.kind, .int .i64 x.src, .int .i64 x.dst, .int .i64 x.prio, .int .u64 x.msg, .int .i64 x.off, .int .i64 x.len, .int .i64 x.total, .int .i64 x.num, .slice v2 x.data.length c2] 26))
    have RT2 := Lib.hid ((R1'.out.below hb2).alloc (.cells #[.int .i64 x.kind, .int .i64 x.src, .int .i64 x.dst, .int .i64 x.prio, .int .u64 x.msg, .int .i64 x.off, .int .i64 x.len, .int .i64 x.total, .int .i64 x.num, .slice v2 x.data.length c2] 26))
    have s2 : w.heap.size < w2.heap.size := (OF1.out.below hb2).lt
    clear hb2 hr2 R2
    unfold Fr.val
    have hbx : (x.kind == 1) = true := beq_iff_eq.2 HKX.out
    go_wp2_with (go_at_call 10; refine (decode_any T _ _ RT2.out).mono ?_)
    rintro e w3 ⟨⟨_, v4, rfl, hr4⟩ | ⟨hno, _⟩, hb3⟩
    rotate_left
    · exact absurd HTG.out hno
    rw [HTR.out]
    have hD2 : T.drop 26 = (trimF x).data := congrArg Fr.data HTR.out
    rw [hD2] at hr4
    clear hD2
    have R4 := Lib.hid hr4
    have HTM := Lib.hid (fun W => trimmed_ref x v2 x.data.length c2 W)
    have HTD := Lib.hid (show (trimF x).data = [] from rfl)
    generalize hy : trimF x = y at *
    clear hy hr4
    obtain ⟨v4, c4, rfl, h9, h10⟩ := R4.out.form
    have B4 := Lib.hid ((B2.out.trans (hb3.mono B2.out.size)).alloc (B2.out.trans (hb3.mono B2.out.size)).size (.cells #[.int .i64 y.kind, .int .i64 y.src, .int .i64 y.dst, .int .i64 y.prio, .int .u64 y.msg, .int .i64 y.off, .int .i64 y.len, .int .i64 y.total, .int .i64 y.num, .slice v4 y.data.length c4] 26))
    have OF4 := Lib.hid ((OF2.out.below hb3).alloc (.cells #[.int .i64 y.kind, .int .i64 y.src, .int .i64 y.dst, .int .i64 y.prio, .int .u64 y.msg, .int .i64 y.off, .int .i64 y.len, .int .i64 y.total, .int .i64 y.num, .slice v4 y.data.length c4] 26))
    have O4 := Lib.hid (Ob.new w3 #[.int .i64 y.kind, .int .i64 y.src, .int .i64 y.dst, .int .i64 y.prio, .int .u64 y.msg, .int .i64 y.off, .int .i64 y.len, .int .i64 y.total, .int .i64 y.num, .slice v4 y.data.length c4] 26)
    have OX4 := Lib.hid ((O2.out.below hb3).alloc (.cells #[.int .i64 y.kind, .int .i64 y.src, .int .i64 y.dst, .int .i64 y.prio, .int .u64 y.msg, .int .i64 y.off, .int .i64 y.len, .int .i64 y.total, .int .i64 y.num, .slice v4 y.data.length c4] 26))
    have D4 := Lib.hid (Rd.alloc R4.out (.cells #[.int .i64 y.kind, .int .i64 y.src, .int .i64 y.dst, .int .i64 y.prio, .int .u64 y.msg, .int .i64 y.off, .int .i64 y.len, .int .i64 y.total, .int .i64 y.num, .slice v4 y.data.length c4] 26))
    have s4 : w2.heap.size < w3.heap.size := (O2.out.below hb3).lt
    clear hb3 R4
    unfold Fr.val
    go_wp2_with fail
    generalize w3.alloc (.cells #[.int .i64 y.kind, .int .i64 y.src, .int .i64 y.dst, .int .i64 y.prio, .int .u64 y.msg, .int .i64 y.off, .int .i64 y.len, .int .i64 y.total, .int .i64 y.num, .slice v4 y.data.length c4] 26) = wc at *
    obtain ⟨l3, k3, f3⟩ := O4.out.blk
    obtain ⟨l9, k9, f9⟩ := OX4.out.blk
    refine wp_run (M := (fun _ => False)) (stages [([true, true, true, true, true, false, false, false, false, false, false, false, false, false], 5), ([false, false, false, false, false, false, false, false, false, false, false, false, false, false], 6)] [false, false, false, false, false, false, false, true, true, true, true, true, true, true]) (by kernel_rfl) (by kernel_rfl) ?_
    refine run_stage rfl ?_
    simp only [pickAt]
    repeat (go_big_quiet_step (fail))
    refine wpQuiet_nil ?_
    refine run_want rfl ?_
    intro A hA
    go_simp
    refine (HTM.out _).mono ?_
    rintro e w5 ⟨rfl, hb5⟩
    have B5 := Lib.hid (B4.out.drew.trans (hb5.mono B4.out.drew.size))
    have OF5 : Hid (Ob w5 w.heap.size _ _) := Lib.hid (OF4.out.drew.below hb5)
    have D5 := Lib.hid (Rd.below (w := wc.drew) D4.out hb5)
    refine hA _ _ ((Kept.of_below hb5)) ?_
    try simp only [Act.put, List.setIfInBounds_toArray, List.set_cons_zero, List.set_cons_succ]
    clear A hA
    clear hb5 l3 k3 f3 l9 k9 f9
    refine run_stage rfl ?_
    simp only [pickAt]
    repeat (go_big_quiet_step (fail))
    refine wpQuiet_nil ?_
    refine run_want rfl ?_
    intro A hA
    go_simp
    refine (same_ref y y (.slice v4 y.data.length c4) (.slice none 0 0) _ D5.out (by rw [HTD.out]; exact Rd.nil _ _)).mono ?_
    intro e w6 hs6
    obtain ⟨rfl, hb6⟩ := same_one hs6
    have BT := Lib.hid (B5.out.trans (hb6.mono B5.out.size))
    have OFT : Hid (Ob w6 w.heap.size _ _) := Lib.hid (OF5.out.below hb6)
    refine hA _ _ ((Kept.of_below hb6)) ?_
    try simp only [Act.put, List.setIfInBounds_toArray, List.set_cons_zero, List.set_cons_succ]
    clear A hA
    clear hb6 hs6
    refine run_last ?_
    simp only [pickAt]
    repeat (go_big_quiet_step (fail))
    refine wpQuiet_nil ?_
    obtain ⟨lf, cf, ff⟩ := OFT.out.blk
    go_wp2_with (go_at_call 13; refine (HE.out _ (HR.out.below BT.out)).mono ?_)
    clear lf cf ff
    rintro e u1 ⟨⟨hok, d1, rfl, ho1⟩ | ⟨hno, rfl⟩, hc1⟩
    rotate_left
    · have U1 := Lib.hid (BT.out.trans (hc1.mono BT.out.size))
      clear hc1
      go_wp2_with fail
      refine (awake_any _).mono ?_
      rintro e u2 ⟨rfl, hb⟩
      go_wp2_with fail
      go_ret
      exact ⟨rfl, U1.out.trans (hb.mono U1.out.size)⟩
    have U1 := Lib.hid (BT.out.trans (hc1.mono BT.out.size))
    have OFU1 : Hid (Ob u1 w.heap.size _ _) := Lib.hid (OFT.out.below hc1)
    have RU1 := Lib.hid (Rd.of_own ho1)
    have HK := Lib.hid hok
    have HGD := Lib.hid (good_enc hok)
    have HRD := Lib.hid (rd_enc hok)
    clear hc1 ho1 hok
    obtain ⟨d1, e1, rfl, g1, g2⟩ := RU1.out.form
    by_cases hkf : f.kind = 1
    · have hb1 : (f.kind == 1) = true := beq_iff_eq.2 hkf
      have HKF := Lib.hid hkf
      clear hkf
      have HTY := Lib.hid (show trimB (encF f) from ⟨HGD.out, by rw [HRD.out]; exact HKF.out⟩)
      have HNT : Hid (¬ trimB (encF (trimF f))) := Lib.hid (fun hh => by
        have h9 := hh.2
        rw [rd_enc (ok_trim HK.out HKF.out)] at h9
        exact absurd h9 (by show ¬ (7 : Int) = 1; decide))
      have HTT := Lib.hid (show trimF (rdF (encF f)) = trimF f by rw [HRD.out])
      generalize hLL : encF f = L at *
      clear hLL
      go_wp2_with (go_at_call 22; refine (trim_any L _ _ RU1.out).mono ?_)
      rintro e u2 ⟨⟨_, d2, rfl, hr2⟩ | ⟨hno, _⟩, hc2⟩
      rotate_left
      · exact absurd HTY.out hno
      rw [HTT.out] at hr2
      have U2 := Lib.hid (U1.out.trans (hc2.mono U1.out.size))
      have OFU2 : Hid (Ob u2 w.heap.size _ _) := Lib.hid (OFU1.out.below hc2)
      have RU2 := Lib.hid hr2
      clear hr2 hc2
      generalize encF (trimF f) = T2 at *
      obtain ⟨d2, e2, rfl, g3, g4⟩ := RU2.out.form
      go_wp2_with (go_at_call 22; refine (trim_any T2 _ _ RU2.out).mono ?_)
      rintro e u3 ⟨⟨hyes, _⟩ | ⟨_, rfl⟩, hc3⟩
      · exact absurd hyes HNT.out
      have U3 := Lib.hid (U2.out.trans (hc3.mono U2.out.size))
      have OFU3 : Hid (Ob u3 w.heap.size _ _) := Lib.hid (OFU2.out.below hc3)
      clear hc3
      obtain ⟨lf, cf, ff⟩ := OFU3.out.blk
      go_wp2_with (go_at_call 9; refine (awake_any _).mono ?_)
      rintro e u4 ⟨rfl, hc4⟩
      go_wp2_with fail
      go_ret
      exact ⟨rfl, U3.out.trans (hc4.mono U3.out.size)⟩
    · have hb1 : (f.kind == 1) = false := beq_eq_false_iff_ne.2 hkf
      have HKF := Lib.hid hkf
      clear hkf
      have HTY := Lib.hid (show ¬ trimB (encF f) from fun hh => HKF.out (by have h9 := hh.2; rw [HRD.out] at h9; exact h9))
      generalize hLL : encF f = L at *
      clear hLL
      go_wp2_with (go_at_call 22; refine (trim_any L _ _ RU1.out).mono ?_)
      rintro e u2 ⟨⟨hyes, _⟩ | ⟨_, rfl⟩, hc2⟩
      · exact absurd hyes HTY.out
      have U2 := Lib.hid (U1.out.trans (hc2.mono U1.out.size))
      have OFU2 : Hid (Ob u2 w.heap.size _ _) := Lib.hid (OFU1.out.below hc2)
      clear hc2
      go_wp2_with (go_at_call 22; refine (trim_any [] _ _ (Rd.nil _ _)).mono ?_)
      rintro e u3 ⟨⟨hyes, _⟩ | ⟨_, rfl⟩, hc3⟩
      · exact absurd hyes.1.1 (by decide)
      have U3 := Lib.hid (U2.out.trans (hc3.mono U2.out.size))
      have OFU3 : Hid (Ob u3 w.heap.size _ _) := Lib.hid (OFU2.out.below hc3)
      clear hc3
      obtain ⟨lf, cf, ff⟩ := OFU3.out.blk
      go_wp2_with (go_at_call 9; refine (awake_any _).mono ?_)
      rintro e u4 ⟨rfl, hc4⟩
      go_wp2_with fail
      go_ret
      exact ⟨rfl, U3.out.trans (hc4.mono U3.out.size)⟩
  · go_wp2_with (go_at_call 11; refine (decode_ref l _ _ (HL.out.below B1.out) (by omega)).mono ?_)
    rintro e w2 ⟨⟨hg, v2, rfl, hr2⟩ | ⟨hno, rfl⟩, hb2⟩
    · have hD : l.drop 26 = (rdF l).data := rfl
      have hkx : (rdF l).kind ≠ 1 := fun hh => HT.out ⟨hg, hh⟩
      rw [hD] at hr2
      clear hD HT
      generalize rdF l = x at *
      obtain ⟨v2, c2, rfl, h7, h8⟩ := hr2.form
      have BT := Lib.hid ((B1.out.trans (hb2.mono B1.out.size)).alloc (B1.out.trans (hb2.mono B1.out.size)).size (.cells #[.int .i64 x.kind, .int .i64 x.src, .int .i64 x.dst, .int .i64 x.prio, .int .u64 x.msg, .int .i64 x.off, .int .i64 x.len, .int .i64 x.total, .int .i64 x.num, .slice v2 x.data.length c2] 26))
      have OFT := Lib.hid ((OF1.out.below hb2).alloc (.cells #[.int .i64 x.kind, .int .i64 x.src, .int .i64 x.dst, .int .i64 x.prio, .int .u64 x.msg, .int .i64 x.off, .int .i64 x.len, .int .i64 x.total, .int .i64 x.num, .slice v2 x.data.length c2] 26))
      clear hb2 hr2 hg
      unfold Fr.val
      have hbx : (x.kind == 1) = false := beq_eq_false_iff_ne.2 hkx
      clear hkx
      obtain ⟨lf, cf, ff⟩ := OFT.out.blk
      go_wp2_with (go_at_call 13; refine (HE.out _ (HR.out.below BT.out)).mono ?_)
      clear lf cf ff
      rintro e u1 ⟨⟨hok, d1, rfl, ho1⟩ | ⟨hno, rfl⟩, hc1⟩
      rotate_left
      · have U1 := Lib.hid (BT.out.trans (hc1.mono BT.out.size))
        clear hc1
        go_wp2_with fail
        refine (awake_any _).mono ?_
        rintro e u2 ⟨rfl, hb⟩
        go_wp2_with fail
        go_ret
        exact ⟨rfl, U1.out.trans (hb.mono U1.out.size)⟩
      have U1 := Lib.hid (BT.out.trans (hc1.mono BT.out.size))
      have OFU1 : Hid (Ob u1 w.heap.size _ _) := Lib.hid (OFT.out.below hc1)
      have RU1 := Lib.hid (Rd.of_own ho1)
      have HK := Lib.hid hok
      have HGD := Lib.hid (good_enc hok)
      have HRD := Lib.hid (rd_enc hok)
      clear hc1 ho1 hok
      obtain ⟨d1, e1, rfl, g1, g2⟩ := RU1.out.form
      by_cases hkf : f.kind = 1
      · have hb1 : (f.kind == 1) = true := beq_iff_eq.2 hkf
        have HKF := Lib.hid hkf
        clear hkf
        have HTY := Lib.hid (show trimB (encF f) from ⟨HGD.out, by rw [HRD.out]; exact HKF.out⟩)
        have HNT : Hid (¬ trimB (encF (trimF f))) := Lib.hid (fun hh => by
          have h9 := hh.2
          rw [rd_enc (ok_trim HK.out HKF.out)] at h9
          exact absurd h9 (by show ¬ (7 : Int) = 1; decide))
        have HTT := Lib.hid (show trimF (rdF (encF f)) = trimF f by rw [HRD.out])
        generalize hLL : encF f = L at *
        clear hLL
        go_wp2_with (go_at_call 22; refine (trim_any L _ _ RU1.out).mono ?_)
        rintro e u2 ⟨⟨_, d2, rfl, hr2⟩ | ⟨hno, _⟩, hc2⟩
        rotate_left
        · exact absurd HTY.out hno
        rw [HTT.out] at hr2
        have U2 := Lib.hid (U1.out.trans (hc2.mono U1.out.size))
        have OFU2 : Hid (Ob u2 w.heap.size _ _) := Lib.hid (OFU1.out.below hc2)
        have RU2 := Lib.hid hr2
        clear hr2 hc2
        generalize encF (trimF f) = T2 at *
        obtain ⟨d2, e2, rfl, g3, g4⟩ := RU2.out.form
        go_wp2_with (go_at_call 22; refine (trim_any T2 _ _ RU2.out).mono ?_)
        rintro e u3 ⟨⟨hyes, _⟩ | ⟨_, rfl⟩, hc3⟩
        · exact absurd hyes HNT.out
        have U3 := Lib.hid (U2.out.trans (hc3.mono U2.out.size))
        have OFU3 : Hid (Ob u3 w.heap.size _ _) := Lib.hid (OFU2.out.below hc3)
        clear hc3
        obtain ⟨lf, cf, ff⟩ := OFU3.out.blk
        go_wp2_with (go_at_call 9; refine (awake_any _).mono ?_)
        rintro e u4 ⟨rfl, hc4⟩
        go_wp2_with fail
        go_ret
        exact ⟨rfl, U3.out.trans (hc4.mono U3.out.size)⟩
      · have hb1 : (f.kind == 1) = false := beq_eq_false_iff_ne.2 hkf
        have HKF := Lib.hid hkf
        clear hkf
        have HTY := Lib.hid (show ¬ trimB (encF f) from fun hh => HKF.out (by have h9 := hh.2; rw [HRD.out] at h9; exact h9))
        generalize hLL : encF f = L at *
        clear hLL
        go_wp2_with (go_at_call 22; refine (trim_any L _ _ RU1.out).mono ?_)
        rintro e u2 ⟨⟨hyes, _⟩ | ⟨_, rfl⟩, hc2⟩
        · exact absurd hyes HTY.out
        have U2 := Lib.hid (U1.out.trans (hc2.mono U1.out.size))
        have OFU2 : Hid (Ob u2 w.heap.size _ _) := Lib.hid (OFU1.out.below hc2)
        clear hc2
        go_wp2_with (go_at_call 22; refine (trim_any [] _ _ (Rd.nil _ _)).mono ?_)
        rintro e u3 ⟨⟨hyes, _⟩ | ⟨_, rfl⟩, hc3⟩
        · exact absurd hyes.1.1 (by decide)
        have U3 := Lib.hid (U2.out.trans (hc3.mono U2.out.size))
        have OFU3 : Hid (Ob u3 w.heap.size _ _) := Lib.hid (OFU2.out.below hc3)
        clear hc3
        obtain ⟨lf, cf, ff⟩ := OFU3.out.blk
        go_wp2_with (go_at_call 9; refine (awake_any _).mono ?_)
        rintro e u4 ⟨rfl, hc4⟩
        go_wp2_with fail
        go_ret
        exact ⟨rfl, U3.out.trans (hc4.mono U3.out.size)⟩
    · have BT := Lib.hid ((B1.out.trans (hb2.mono B1.out.size)).alloc (B1.out.trans (hb2.mono B1.out.size)).size (.cells #[.int .i64 0, .int .i64 0, .int .i64 0, .int .i64 0, .int .u64 0, .int .i64 0, .int .i64 0, .int .i64 0, .int .i64 0, .slice none 0 0] 26))
      have OFT := Lib.hid ((OF1.out.below hb2).alloc (.cells #[.int .i64 0, .int .i64 0, .int .i64 0, .int .i64 0, .int .u64 0, .int .i64 0, .int .i64 0, .int .i64 0, .int .i64 0, .slice none 0 0] 26))
      clear hb2 hno
      unfold zeroF
      obtain ⟨lf, cf, ff⟩ := OFT.out.blk
      go_wp2_with (go_at_call 13; refine (HE.out _ (HR.out.below BT.out)).mono ?_)
      clear lf cf ff
      rintro e u1 ⟨⟨hok, d1, rfl, ho1⟩ | ⟨hno, rfl⟩, hc1⟩
      rotate_left
      · have U1 := Lib.hid (BT.out.trans (hc1.mono BT.out.size))
        clear hc1
        go_wp2_with fail
        refine (awake_any _).mono ?_
        rintro e u2 ⟨rfl, hb⟩
        go_wp2_with fail
        go_ret
        exact ⟨rfl, U1.out.trans (hb.mono U1.out.size)⟩
      have U1 := Lib.hid (BT.out.trans (hc1.mono BT.out.size))
      have OFU1 : Hid (Ob u1 w.heap.size _ _) := Lib.hid (OFT.out.below hc1)
      have RU1 := Lib.hid (Rd.of_own ho1)
      have HK := Lib.hid hok
      have HGD := Lib.hid (good_enc hok)
      have HRD := Lib.hid (rd_enc hok)
      clear hc1 ho1 hok
      obtain ⟨d1, e1, rfl, g1, g2⟩ := RU1.out.form
      by_cases hkf : f.kind = 1
      · have hb1 : (f.kind == 1) = true := beq_iff_eq.2 hkf
        have HKF := Lib.hid hkf
        clear hkf
        have HTY := Lib.hid (show trimB (encF f) from ⟨HGD.out, by rw [HRD.out]; exact HKF.out⟩)
        have HNT : Hid (¬ trimB (encF (trimF f))) := Lib.hid (fun hh => by
          have h9 := hh.2
          rw [rd_enc (ok_trim HK.out HKF.out)] at h9
          exact absurd h9 (by show ¬ (7 : Int) = 1; decide))
        have HTT := Lib.hid (show trimF (rdF (encF f)) = trimF f by rw [HRD.out])
        generalize hLL : encF f = L at *
        clear hLL
        go_wp2_with (go_at_call 22; refine (trim_any L _ _ RU1.out).mono ?_)
        rintro e u2 ⟨⟨_, d2, rfl, hr2⟩ | ⟨hno, _⟩, hc2⟩
        rotate_left
        · exact absurd HTY.out hno
        rw [HTT.out] at hr2
        have U2 := Lib.hid (U1.out.trans (hc2.mono U1.out.size))
        have OFU2 : Hid (Ob u2 w.heap.size _ _) := Lib.hid (OFU1.out.below hc2)
        have RU2 := Lib.hid hr2
        clear hr2 hc2
        generalize encF (trimF f) = T2 at *
        obtain ⟨d2, e2, rfl, g3, g4⟩ := RU2.out.form
        go_wp2_with (go_at_call 22; refine (trim_any T2 _ _ RU2.out).mono ?_)
        rintro e u3 ⟨⟨hyes, _⟩ | ⟨_, rfl⟩, hc3⟩
        · exact absurd hyes HNT.out
        have U3 := Lib.hid (U2.out.trans (hc3.mono U2.out.size))
        have OFU3 : Hid (Ob u3 w.heap.size _ _) := Lib.hid (OFU2.out.below hc3)
        clear hc3
        obtain ⟨lf, cf, ff⟩ := OFU3.out.blk
        go_wp2_with (go_at_call 9; refine (awake_any _).mono ?_)
        rintro e u4 ⟨rfl, hc4⟩
        go_wp2_with fail
        go_ret
        exact ⟨rfl, U3.out.trans (hc4.mono U3.out.size)⟩
      · have hb1 : (f.kind == 1) = false := beq_eq_false_iff_ne.2 hkf
        have HKF := Lib.hid hkf
        clear hkf
        have HTY := Lib.hid (show ¬ trimB (encF f) from fun hh => HKF.out (by have h9 := hh.2; rw [HRD.out] at h9; exact h9))
        generalize hLL : encF f = L at *
        clear hLL
        go_wp2_with (go_at_call 22; refine (trim_any L _ _ RU1.out).mono ?_)
        rintro e u2 ⟨⟨hyes, _⟩ | ⟨_, rfl⟩, hc2⟩
        · exact absurd hyes HTY.out
        have U2 := Lib.hid (U1.out.trans (hc2.mono U1.out.size))
        have OFU2 : Hid (Ob u2 w.heap.size _ _) := Lib.hid (OFU1.out.below hc2)
        clear hc2
        go_wp2_with (go_at_call 22; refine (trim_any [] _ _ (Rd.nil _ _)).mono ?_)
        rintro e u3 ⟨⟨hyes, _⟩ | ⟨_, rfl⟩, hc3⟩
        · exact absurd hyes.1.1 (by decide)
        have U3 := Lib.hid (U2.out.trans (hc3.mono U2.out.size))
        have OFU3 : Hid (Ob u3 w.heap.size _ _) := Lib.hid (OFU2.out.below hc3)
        clear hc3
        obtain ⟨lf, cf, ff⟩ := OFU3.out.blk
        go_wp2_with (go_at_call 9; refine (awake_any _).mono ?_)
        rintro e u4 ⟨rfl, hc4⟩
        go_wp2_with fail
        go_ret
        exact ⟨rfl, U3.out.trans (hc4.mono U3.out.size)⟩
end Go.Proofs.Ytaddbbbdklialaa
