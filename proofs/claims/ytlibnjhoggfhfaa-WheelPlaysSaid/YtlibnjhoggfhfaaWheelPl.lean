/- The law WheelPlays (chapter 2), walked. -/
import Derived.Test.YtlibnjhoggfhfaaWheelPa
import Derived.Test.YtlibnjhoggfhfaaWheelPo
import Derived.Deep.CutBlock
namespace Go.Proofs.Ytlibnjhoggfhfaa
open Go.RowKit

theorem rowStp (x : Stp) : x.row.length = 4 := rfl
/-- the wheel and the document's, side by side -/
structure X3 (B C : Nat) (V U : Value) (s t : Wl) (w : World) : Prop where
  a : Wh TW TD B B V s w
  b : Wh TRW TRD C B U t w
  ap : ∀ x, WM B V x → ¬ WM C U x
theorem X3.first {B C : Nat} {V U : Value} {s t s' : Wl} {w w' : World} (h : X3 B C V U s t w) (hp : WhPost TW TD B B V s' w w') : ∃ V', X3 B C V' U s' t w' ∧ Below B w w' := by
  obtain ⟨V', h1, h2, h3⟩ := hp
  refine ⟨V', ⟨h1, h.b.kept h2 (fun x hx hh => h.ap x hh hx), fun x hx hu => ?_⟩, h2.belowAt (Nat.le_of_lt h.a.ob.lt) (fun x hx => (h.a.lt x hx).1)⟩
  rcases h3 x hx with hh | hh
  · exact h.ap x hh hu
  · have := (h.b.lt x hu).2; omega
theorem X3.second {B C : Nat} {V U : Value} {s t t' : Wl} {w w' : World} (h : X3 B C V U s t w) (hp : WhPost TRW TRD C B U t' w w') : ∃ U', X3 B C V U' s t' w' ∧ Below B w w' := by
  obtain ⟨U', h1, h2, h3⟩ := hp
  refine ⟨U', ⟨h.a.kept h2 (fun x hx hh => h.ap x hx hh), h1, fun x hx hu => ?_⟩, h2.belowAt (Nat.le_of_lt h.a.ob.lt) (fun x hx => (h.b.lt x hx).1)⟩
  rcases h3 x hu with hh | hh
  · exact h.ap x hx hh
  · have := (h.a.lt x hx).2; omega
theorem X3.keptF {B C : Nat} {V U : Value} {s t : Wl} {w w' : World} (h : X3 B C V U s t w) (hk : Kept (fun _ => False) w w') : X3 B C V U s t w' := ⟨h.a.keptF hk, h.b.keptF hk, h.ap⟩
def PM (B C : Nat) (V U : Value) : Nat → Prop := fun x => WM B V x ∨ WM C U x
theorem X3.lt {B C : Nat} {V U : Value} {s t : Wl} {w : World} (h : X3 B C V U s t w) : ∀ x, PM B C V U x → B ≤ x ∧ x < w.heap.size := by
  rintro x (hx | hx)
  · exact h.a.lt x hx
  · exact h.b.lt x hx
set_option maxRecDepth 100000 in
set_option maxHeartbeats 8000000 in
theorem plays_in (most : Int) (l : List Stp) (v : Value) (w : World) (h : Rd w 4 v l.length (l.flatMap Stp.row)) (hl : l.length ≤ 100) (m0 : 1 ≤ most) (m1 : most ≤ 100000) : Calls Try.prog 6 #[.int .i64 most, v] w (TrueBelow w) := by
  obtain ⟨v, cp, rfl, h1, h2⟩ := h.form
  have HR := Lib.hid h
  clear h
  go_enter Try.func6, Try.ntmps6
  go_wp2_with fail
  refine (new_dui most _ ⟨m0, m1⟩).mono ?_
  rintro e w1 ⟨rfl, hw, hb⟩
  have HB := Lib.hid hb
  have HW := Lib.hid hw
  have s1 := hb.size
  have l1 := hw.ob.lt
  clear hw hb
  go_wp2_with fail
  generalize hB : w.heap.size = B at *
  have HBQ := Lib.hid hB
  clear hB
  have HP0 : Hid (X3 B w1.heap.size (.slice none 0 0) (.slice none 0 0) ⟨most, 0, 0, []⟩ ⟨most, 0, 0, []⟩ (w1.alloc (.cells #[.int .i64 most, .int .i64 0, .int .i64 0, .slice none 0 0] TRW))) := Lib.hid ⟨HW.out.alloc _, ⟨Ob.new _ _ _, World.ownsRow_nil _ _ _ _, by simp [Value.ownBlock], s1⟩, fun x hx hu => by
    rcases hx with rfl | hx
    · rcases hu with hu | hu
      · omega
      · cases hu
    · cases hx⟩
  have HB0 := Lib.hid (HB.out.alloc s1 (.cells #[.int .i64 most, .int .i64 0, .int .i64 0, .slice none 0 0] TRW))
  generalize w1.heap.size = C at *
  generalize w1.alloc (.cells #[.int .i64 most, .int .i64 0, .int .i64 0, .slice none 0 0] TRW) = w2 at *
  clear HW HB
  go_loopw [9] (fun i wr => ∃ (k : Nat) (V U : Value) (s : Wl), i = .int .i64 k ∧ k ≤ l.length ∧ X3 B C V U s s wr ∧ s.good k ∧ Below B w wr) (fun i _ => l.length - (intOf i).toNat)
  case atStart => exact ⟨0, _, _, _, rfl, Nat.zero_le _, HP0.out, ⟨new_ok m0 m1, Int.le_refl _, fun x hx => (by cases hx)⟩, HB0.out⟩
  case round =>
    obtain ⟨k, V, U, s, rfl, hk, hp, ho, hb⟩ := hrel
    have HP := Lib.hid hp
    have HO := Lib.hid ho
    have HBk := Lib.hid hb
    have sk : B ≤ wr.heap.size := by have := hb.size; rw [HBQ.out] at this; exact this
    clear hp ho hb HP0 HB0
    by_cases hlt : k < l.length
    · obtain ⟨b, o, rfl, hbo, cw⟩ := Rd.row rowStp (by decide) (HR.out.below (by rw [HBQ.out]; exact HBk.out)) k hlt
      generalize l[k] = x at *
      have c0 := cw 0 (.int .i64 x.kind) rfl
      have c1 := cw 1 (.int .i64 x.at') rfl
      have c2 := cw 2 (.int .i64 x.v) rfl
      have c3 := cw 3 (.int .i64 x.n) rfl
      rw [Nat.add_zero] at c0
      clear cw
      go_upto_region 14 with fail
      have OX := Lib.hid (Ob.new wr #[.int .i64 x.kind, .int .i64 x.at', .int .i64 x.v, .int .i64 x.n] 46)
      have hXm : ¬ PM B C V U wr.heap.size := fun hh => by have := (HP.out.lt _ hh).2; omega
      have HXM := Lib.hid hXm
      have HP1 := Lib.hid (HP.out.keptF ((Kept.refl (fun _ => False) wr).alloc (.cells #[.int .i64 x.kind, .int .i64 x.at', .int .i64 x.v, .int .i64 x.n] 46)))
      have B1 := Lib.hid (HBk.out.alloc sk (.cells #[.int .i64 x.kind, .int .i64 x.at', .int .i64 x.v, .int .i64 x.n] 46))
      clear hXm c0 c1 c2 c3 hbo
      generalize wr.alloc (.cells #[.int .i64 x.kind, .int .i64 x.at', .int .i64 x.v, .int .i64 x.n] 46) = wx at *
      generalize wr.heap.size = X at *
      have sx : B ≤ wx.heap.size := by have := B1.out.size; rw [HBQ.out] at this; exact this
      obtain ⟨lx, cx, fx⟩ := OX.out.blk
      have c0 : wx.cell? ⟨X, 0, none⟩ = some (.int .i64 x.kind) := cx 0
      have c1 : wx.cell? ⟨X, 1, none⟩ = some (.int .i64 x.at') := cx 1
      have c2 : wx.cell? ⟨X, 2, none⟩ = some (.int .i64 x.v) := cx 2
      have c3 : wx.cell? ⟨X, 3, none⟩ = some (.int .i64 x.n) := cx 3
      clear cx
      go_upto_block 2 with fail
      go_cut [11, 12, 13, 14] from 57 to 169 (fun s11 s12 s13 s14 wc => ∃ (V U : Value) (s : Wl), X3 B C V U s s wc ∧ s.good (k + 1) ∧ Below B w wc)
      case first =>
        have hlast : s.last < 1000000000 := by have := HO.out.last; omega
        have hXm := HXM.out
        rcases (by omega : x.kind = 1 ∨ (x.kind ≠ 1 ∧ x.kind = 2) ∨ (x.kind ≠ 1 ∧ x.kind ≠ 2 ∧ x.kind = 3) ∨ (x.kind ≠ 1 ∧ x.kind ≠ 2 ∧ x.kind ≠ 3)) with k1 | ⟨k1, k2⟩ | ⟨k1, k2, k3⟩ | ⟨k1, k2, k3⟩
        · have kb : (x.kind == 1) = true := beq_iff_eq.2 k1
          clear k1
          go_wp2_with fail
          refine (add_all B B V s x.at' x.v _ HP1.out.a HO.out.ok hlast).mono ?_
          rintro e w3 ⟨rfl, hp3⟩
          obtain ⟨V3, hw3, hb3⟩ := HP1.out.first hp3
          have hk3 : Kept (PM B C V U) wx w3 := by obtain ⟨_, _, hk, _⟩ := hp3; exact hk.mono fun y _ hy => .inl hy
          have OX3 := Lib.hid (OX.out.kept hk3 hXm)
          have HP3 := Lib.hid hw3
          have B3 := Lib.hid (B1.out.trans hb3)
          clear hp3 hw3 hb3 hk3 lx fx c0 c1 c2 c3
          obtain ⟨lx, cx, fx⟩ := OX3.out.blk
          have c1 : w3.cell? ⟨X, 1, none⟩ = some (.int .i64 x.at') := cx 1
          have c2 : w3.cell? ⟨X, 2, none⟩ = some (.int .i64 x.v) := cx 2
          clear cx
          go_wp2_with fail
          refine (radd_all C B U s x.at' x.v _ HP3.out.b HO.out.ok hlast).mono ?_
          rintro e w4 ⟨rfl, hp4⟩
          obtain ⟨U4, hw4, hb4⟩ := HP3.out.second hp4
          have HP4 := Lib.hid hw4
          have B4 := Lib.hid (B3.out.trans hb4)
          have HG4 := Lib.hid (add_good HO.out (by omega) x.at' x.v)
          generalize s.add x.at' x.v = s4 at *
          generalize s.ans x.at' = an at *
          clear hp4 hw4 hb4 c1 c2 lx fx
          go_wp2_with fail
          go_meet
          exact ⟨V3, U4, s4, HP4.out, HG4.out, B4.out⟩
        · have kb : (x.kind == 1) = false := beq_eq_false_iff_ne.2 k1
          have kb2 : (x.kind == 2) = true := beq_iff_eq.2 k2
          clear k1 k2
          go_wp2_with fail
          refine wp_run (M := (PM B C V U)) (stages [([true, true, true, false, true, true, true, false, false], 3), ([false, false, false, false, false, false, false, false, false], 7)] [false, false, false, false, false, false, false, false, true]) (by kernel_rfl) (by kernel_rfl) ?_
          refine run_stage rfl ?_
          simp only [pickAt]
          repeat (go_big_quiet_step (fail))
          refine wpQuiet_nil ?_
          refine run_want rfl ?_
          intro A hA
          go_simp
          have HPd := HP1.out.keptF (Kept.drew _ _)
          refine (cancel_dui B B V s x.n _ HPd.a HO.out.ok).mono ?_
          obtain ⟨an, HAN⟩ : ∃ an : Int, Hid ((if s.l.any (fun y => y.id == x.n) = true then 0 else 5) = an) := ⟨_, Lib.hid rfl⟩
          rw [HAN.out]
          rintro e w3 ⟨rfl, hp3⟩
          obtain ⟨V3, hw3, hb3⟩ := HPd.first hp3.weak
          have hk3 : Kept (PM B C V U) wx.drew w3 := by obtain ⟨_, _, hk, _⟩ := hp3; exact hk.mono fun y _ hy => .inl hy
          have HP3 := Lib.hid hw3
          have B3 := Lib.hid (B1.out.drew.trans hb3)
          have OX3 := Lib.hid (OX.out.drew.kept hk3 hXm)
          refine hA _ _ (hk3) ?_
          try simp only [Act.put, List.setIfInBounds_toArray, List.set_cons_zero, List.set_cons_succ]
          clear A hA
          clear hp3 hw3 hb3 hk3 HPd
          refine run_stage rfl ?_
          simp only [pickAt]
          repeat (go_big_quiet_step (fail))
          refine wpQuiet_nil ?_
          refine run_want rfl ?_
          intro A hA
          go_simp
          refine (rcancel C B U s x.n _ HP3.out.b HO.out.ok).mono ?_
          rw [HAN.out]
          rintro e w4 ⟨rfl, hp4⟩
          obtain ⟨U4, hw4, hb4⟩ := HP3.out.second hp4
          have hk4 : Kept (PM B C V U) w3 w4 := by obtain ⟨_, _, hk, _⟩ := hp4; exact hk.mono fun y _ hy => .inr hy
          have HP4 := Lib.hid hw4
          have B4 := Lib.hid (B3.out.trans hb4)
          refine hA _ _ (hk4) ?_
          try simp only [Act.put, List.setIfInBounds_toArray, List.set_cons_zero, List.set_cons_succ]
          clear A hA
          clear hp4 hw4 hb4 hk4
          refine run_last ?_
          simp only [pickAt]
          repeat (go_big_quiet_step (fail))
          refine wpQuiet_nil ?_
          go_wp2_with fail
          go_meet
          exact ⟨V3, U4, _, HP4.out, less_good HO.out _, B4.out⟩
        · have kb : (x.kind == 1) = false := beq_eq_false_iff_ne.2 k1
          have kb2 : (x.kind == 2) = false := beq_eq_false_iff_ne.2 k2
          have kb3 : (x.kind == 3) = true := beq_iff_eq.2 k3
          clear k1 k2 k3
          go_wp2_with fail
          refine wp_run (M := (PM B C V U)) (stages [([true, true, true, false, true, true, true, false, false, false], 3), ([false, false, false, false, false, false, false, false, false, false], 7), ([false, false, false, false, false, false, false, false, false, false], 8)] [false, false, false, false, false, false, false, false, false, true]) (by kernel_rfl) (by kernel_rfl) ?_
          refine run_stage rfl ?_
          simp only [pickAt]
          repeat (go_big_quiet_step (fail))
          refine wpQuiet_nil ?_
          refine run_want rfl ?_
          intro A hA
          go_simp
          have HPd := HP1.out.keptF (Kept.drew _ _)
          refine (adv_dui B B V s x.at' _ HPd.a HO.out.ok).mono ?_
          rintro e w3 ⟨v3, rfl, hv3, hp3⟩
          obtain ⟨V3, hw3, hb3⟩ := HPd.first hp3.weak
          have hk3 : Kept (PM B C V U) wx.drew w3 := by obtain ⟨_, _, hk, _⟩ := hp3; exact hk.mono fun y _ hy => .inl hy
          have HP3 := Lib.hid hw3
          have HV3 := Lib.hid hv3
          have B3 := Lib.hid (B1.out.drew.trans hb3)
          have OX3 := Lib.hid (OX.out.drew.kept hk3 hXm)
          have HUX : Hid (∀ y, v3.ownBlock = some y → ¬ WM C U y) := Lib.hid (fun y hy hh => by have h7 := (own_lt hv3 y hy).1; have h8 := (HPd.b.lt y hh).2; omega)
          refine hA _ _ (hk3) ?_
          try simp only [Act.put, List.setIfInBounds_toArray, List.set_cons_zero, List.set_cons_succ]
          clear A hA
          clear hp3 hw3 hb3 hk3 HPd hv3
          refine run_stage rfl ?_
          simp only [pickAt]
          repeat (go_big_quiet_step (fail))
          refine wpQuiet_nil ?_
          refine run_want rfl ?_
          intro A hA
          go_simp
          refine (radv C B U s x.at' _ HP3.out.b HO.out.ok).mono ?_
          rintro e w4 ⟨v4, rfl, hv4, hp4⟩
          obtain ⟨U4, hw4, hb4⟩ := HP3.out.second hp4
          obtain ⟨_, _, hk4', _⟩ := id hp4
          have hk4 : Kept (PM B C V U) w3 w4 := hk4'.mono fun y _ hy => .inr hy
          have HV4 := Lib.hid hv4
          have HV3' := Lib.hid (own_kept HV3.out hk4' HUX.out)
          have HP4 := Lib.hid hw4
          have B4 := Lib.hid (B3.out.trans hb4)
          refine hA _ _ (hk4) ?_
          try simp only [Act.put, List.setIfInBounds_toArray, List.set_cons_zero, List.set_cons_succ]
          clear A hA
          clear hp4 hw4 hb4 hk4 hk4' hv4
          refine run_stage rfl ?_
          simp only [pickAt]
          repeat (go_big_quiet_step (fail))
          refine wpQuiet_nil ?_
          refine run_want rfl ?_
          intro A hA
          go_simp
          refine (same_all (s.out x.at') v3 v4 _ (Rd.of_own HV3'.out) (Rd.of_own HV4.out) (fun y hy => HO.out.ints y (List.mem_of_mem_take hy))).mono ?_
          rintro e w5 ⟨rfl, hk5⟩
          have HP5 := Lib.hid (HP4.out.keptF hk5)
          have B5 := Lib.hid (B4.out.trans (hk5.belowAt (Nat.le_of_lt HP4.out.a.ob.lt) (fun _ h => h.elim)))
          refine hA _ _ ((kept_any hk5)) ?_
          try simp only [Act.put, List.setIfInBounds_toArray, List.set_cons_zero, List.set_cons_succ]
          clear A hA
          clear hk5
          refine run_last ?_
          simp only [pickAt]
          repeat (go_big_quiet_step (fail))
          refine wpQuiet_nil ?_
          go_wp2_with fail
          go_meet
          exact ⟨V3, U4, _, HP5.out, goes_good HO.out _, B5.out⟩
        · have kb : (x.kind == 1) = false := beq_eq_false_iff_ne.2 k1
          have kb2 : (x.kind == 2) = false := beq_eq_false_iff_ne.2 k2
          have kb3 : (x.kind == 3) = false := beq_eq_false_iff_ne.2 k3
          clear k1 k2 k3
          go_wp2_with fail
          go_meet
          exact ⟨V, U, s, HP1.out, good_more HO.out, B1.out⟩
      case rest =>
      obtain ⟨V2, U2, s2, hp, ho, hb⟩ := hcut
      have HP2 := Lib.hid hp
      have HO2 := Lib.hid ho
      have B2 := Lib.hid hb
      clear hp ho hb c0 c1 c2 c3 lx fx HP HO HBk HP1 B1 OX HXM
      obtain ⟨lC, cC, fC⟩ := HP2.out.b.ob.blk
      obtain ⟨aC, kC, hvC, _, _⟩ := (Rd.of_own HP2.out.b.own).form
      have cC1 : wc.cell? ⟨C, 1, none⟩ = some (.int .i64 s2.now) := cC 1
      have cC3 : wc.cell? ⟨C, 3, none⟩ = some (.slice aC s2.l.length kC) := by rw [cC 3, hvC]; rfl
      have hrdC := Rd.of_own HP2.out.b.own
      rw [hvC] at hrdC
      clear cC hvC
      go_wp2_with fail
      refine (next_all B B V2 s2 _ HP2.out.a).mono ?_
      rintro e w3 ⟨rfl, rfl⟩
      have hlen2 : s2.l.length ≤ 100000 := by have := HO2.out.ok.ln; have := HO2.out.ok.a1; omega
      rcases Nat.eq_zero_or_pos s2.l.length with h0 | h0
      · have e1 : s2.nx = 0 := by unfold Wl.nx; rw [List.eq_nil_of_length_eq_zero h0]; rfl
        rw [e1]
        rw [h0] at cC3
        have HL0 := Lib.hid h0
        rw [h0]
        clear h0 e1 hrdC
        go_wp2_with fail
        refine wp_run (M := (fun _ => False)) (stages [([true, true, true, true, true, true, true, true, true, true, true, true, true, true, true, false, true, true, true, true, true, false, false, false, false, false, false, false, false, false, false, false], 15), ([false, false, false, false, false, false, false, false, false, false, false, false, false, false, false, false, false, false, false, false, false, true, true, true, true, false, true, true, true, true, false, false], 25)] [false, false, false, false, false, false, false, false, false, false, false, false, false, false, false, false, false, false, false, false, false, false, false, false, false, false, false, false, false, false, true, true]) (by kernel_rfl) (by kernel_rfl) ?_
        refine run_stage rfl ?_
        simp only [pickAt]
        repeat (go_big_quiet_step (fail))
        refine wpQuiet_nil ?_
        refine run_want rfl ?_
        intro A hA
        go_simp
        have HP3 := Lib.hid (HP2.out.keptF (Kept.drew _ _))
        have B3 := Lib.hid B2.out.drew
        refine (len_dui B B V2 s2 _ HP3.out.a).mono ?_
        rw [HL0.out]
        rintro e w4 ⟨rfl, rfl⟩
        refine hA _ _ ((Kept.refl _ _)) ?_
        try simp only [Act.put, List.setIfInBounds_toArray, List.set_cons_zero, List.set_cons_succ]
        clear A hA
        refine run_stage rfl ?_
        simp only [pickAt]
        repeat (go_big_quiet_step (fail))
        refine wpQuiet_nil ?_
        refine run_want rfl ?_
        intro A hA
        go_simp
        refine (now_dui B B V2 s2 _ HP3.out.a).mono ?_
        rintro e w4 ⟨rfl, rfl⟩
        refine hA _ _ ((Kept.refl _ _)) ?_
        try simp only [Act.put, List.setIfInBounds_toArray, List.set_cons_zero, List.set_cons_succ]
        clear A hA
        refine run_last ?_
        simp only [pickAt]
        repeat (go_big_quiet_step (fail))
        refine wpQuiet_nil ?_
        go_wp2_with fail
        go_roundw
        case rel => exact ⟨k + 1, V2, U2, s2, by go_num, by omega, HP3.out, HO2.out, B3.out⟩
        case measure => simp [intOf]; omega
      · have hr0 := hrdC
        obtain ⟨g, o, rfl, hg, cwa⟩ := Rd.row rowDu (by decide) hrdC 0 h0
        have d0 := cwa 0 (.int .i64 s2.l[0].at') rfl
        rw [Nat.add_zero] at d0
        have e1 : s2.nx = s2.l[0].at' := by unfold Wl.nx; rw [List.head?_eq_getElem?, List.getElem?_eq_getElem h0]; rfl
        have e2 : decide (0 < s2.l.length) = true := decide_eq_true h0
        rw [e1, e2]
        generalize s2.l[0].at' = y at *
        clear cwa hrdC hr0 e1
        go_wp2_with fail
        refine wp_run (M := (fun _ => False)) (stages [([true, true, true, true, true, true, true, true, true, true, true, true, true, true, true, false, true, true, true, true, true, false, false, false, false, false, false, false, false, false, false, false], 15), ([false, false, false, false, false, false, false, false, false, false, false, false, false, false, false, false, false, false, false, false, false, true, true, true, true, false, true, true, true, true, false, false], 25)] [false, false, false, false, false, false, false, false, false, false, false, false, false, false, false, false, false, false, false, false, false, false, false, false, false, false, false, false, false, false, true, true]) (by kernel_rfl) (by kernel_rfl) ?_
        refine run_stage rfl ?_
        simp only [pickAt]
        repeat (go_big_quiet_step (fail))
        refine wpQuiet_nil ?_
        refine run_want rfl ?_
        intro A hA
        go_simp
        have HP3 := Lib.hid (HP2.out.keptF (Kept.drew _ _))
        have B3 := Lib.hid B2.out.drew
        refine (len_dui B B V2 s2 _ HP3.out.a).mono ?_
        rintro e w4 ⟨rfl, rfl⟩
        refine hA _ _ ((Kept.refl _ _)) ?_
        try simp only [Act.put, List.setIfInBounds_toArray, List.set_cons_zero, List.set_cons_succ]
        clear A hA
        refine run_stage rfl ?_
        simp only [pickAt]
        repeat (go_big_quiet_step (fail))
        refine wpQuiet_nil ?_
        refine run_want rfl ?_
        intro A hA
        go_simp
        refine (now_dui B B V2 s2 _ HP3.out.a).mono ?_
        rintro e w4 ⟨rfl, rfl⟩
        refine hA _ _ ((Kept.refl _ _)) ?_
        try simp only [Act.put, List.setIfInBounds_toArray, List.set_cons_zero, List.set_cons_succ]
        clear A hA
        refine run_last ?_
        simp only [pickAt]
        repeat (go_big_quiet_step (fail))
        refine wpQuiet_nil ?_
        go_wp2_with fail
        go_roundw
        case rel => exact ⟨k + 1, V2, U2, s2, by go_num, by omega, HP3.out, HO2.out, B3.out⟩
        case measure => simp [intOf]; omega
    · obtain rfl : k = l.length := by omega
      go_wp2_with fail
      refine (adv_dui B B V s 1125899906842624 _ HP.out.a HO.out.ok).mono ?_
      rintro e w3 ⟨v3, rfl, hv3, hp3⟩
      obtain ⟨V3, hw3, hb3⟩ := HP.out.first hp3.weak
      have HP3 := Lib.hid hw3
      have HV3 := Lib.hid hv3
      have B3 := Lib.hid (HBk.out.trans hb3)
      have HUX : Hid (∀ y, v3.ownBlock = some y → ¬ WM C U y) := Lib.hid (fun y hy hh => by have h7 := (own_lt hv3 y hy).1; have h8 := (HP.out.b.lt y hh).2; omega)
      clear hp3 hw3 hb3 hv3
      go_wp2_with fail
      refine (radv C B U s 1125899906842624 _ HP3.out.b HO.out.ok).mono ?_
      rintro e w4 ⟨v4, rfl, hv4, hp4⟩
      obtain ⟨U4, hw4, hb4⟩ := HP3.out.second hp4
      obtain ⟨_, _, hk4', _⟩ := id hp4
      have HV4 := Lib.hid hv4
      have HV3' := Lib.hid (own_kept HV3.out hk4' HUX.out)
      have HP4 := Lib.hid hw4
      have B4 := Lib.hid (B3.out.trans hb4)
      clear hp4 hw4 hb4 hk4' hv4
      go_wp2_with fail
      refine (same_all (s.out 1125899906842624) v3 v4 _ (Rd.of_own HV3'.out) (Rd.of_own HV4.out) (fun y hy => HO.out.ints y (List.mem_of_mem_take hy))).mono ?_
      rintro e w5 ⟨rfl, hk5⟩
      have HP5 := Lib.hid (HP4.out.keptF hk5)
      have B5 := Lib.hid (B4.out.trans (hk5.belowAt (Nat.le_of_lt HP4.out.a.ob.lt) (fun _ h => h.elim)))
      have s5 := B5.out.size
      rw [HBQ.out] at s5
      clear hk5
      go_wp2_with fail
      go_wp2_with fail
      refine (awake_any _).mono ?_
      rintro e w7 ⟨rfl, hb7⟩
      go_wp2_with fail
      go_ret
      refine ⟨by simp, ?_⟩
      rw [HBQ.out]
      exact B5.out.trans (hb7.mono s5)
set_option maxRecDepth 100000 in
theorem plays_any (most : Int) (l : List Stp) (v : Value) (w : World) (h : Rd w 4 v l.length (l.flatMap Stp.row)) : Calls Try.prog 6 #[.int .i64 most, v] w (TrueBelow w) := by
  by_cases hc : l.length ≤ 100 ∧ 1 ≤ most ∧ most ≤ 100000
  · exact plays_in most l v w h hc.1 hc.2.1 hc.2.2
  · obtain ⟨v, cp, rfl, h1, h2⟩ := h.form
    clear h
    rcases (by omega : 100 < l.length ∨ (l.length ≤ 100 ∧ most < 1) ∨ (l.length ≤ 100 ∧ 1 ≤ most ∧ 100000 < most)) with h | ⟨h, h3⟩ | ⟨h, h3, h4⟩
    · clear hc
      go_enter Try.func6, Try.ntmps6
      go_wp2_with fail
      refine (awake_any _).mono ?_
      rintro e w2 ⟨rfl, hb⟩
      go_wp2_with fail
      go_ret
      exact ⟨rfl, hb⟩
    all_goals
      clear hc
      first | (have hd : decide (most ≤ 100000) = false := decide_eq_false (by omega)) | skip
      go_enter Try.func6, Try.ntmps6
      go_wp2_with fail
      refine (newno_dui most _ (by omega)).mono ?_
      rintro e w2 ⟨rfl, rfl⟩
      go_wp2_with fail
      refine (awake_any _).mono ?_
      rintro e w2 ⟨rfl, hb⟩
      go_wp2_with fail
      go_ret
      exact ⟨rfl, hb⟩
end Go.Proofs.Ytlibnjhoggfhfaa
