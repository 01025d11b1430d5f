/- The law PullsPlays (chapter 18), walked. -/
import Derived.Test.YtohjnplhmbfjlaaPuQ
namespace Go.Proofs.Ytohjnplhmbfjlaa
open Go.RowKit

abbrev TSt : TypeId := 42
/-- a step -/
structure Stp where
  kind : Int
  peer : Int
  id : Int
  n : Int
def Stp.row (x : Stp) : List Value := [.int .i64 x.kind, .int .i64 x.peer, .int .u64 x.id, .int .i64 x.n]
theorem rowStp (x : Stp) : x.row.length = 4 := rfl
def r0 (most : Int) : Rs := ⟨most, [], 0, false, fun _ => 0, fun _ => false⟩
theorem sim_start (most : Int) : Sim (empty most) (r0 most) := ⟨rfl, rfl, fun _ _ => rfl, fun _ _ _ => rfl, fun _ => rfl, fun h => (by cases h), ⟨Int.le_refl _, by show (0 : Int) < 8; omega⟩⟩
def Bar (X : Nat) : Nat → Prop := fun y => y ≠ X
theorem not_bar (X : Nat) : ¬ Bar X X := fun h => h rfl
set_option maxRecDepth 100000 in
set_option maxHeartbeats 16000000 in
theorem plays_in (most : Int) (l : List Stp) (v : Value) (w : World) (h : Rd w 4 v l.length (l.flatMap Stp.row)) (hl : l.length ≤ 100) (m0 : 1 ≤ most) (m1 : most ≤ 10000) : Calls Try.prog 4 #[.int .i64 most, v] w (TrueBelow w) := by
  obtain ⟨a, c, rfl, hlc, hcm⟩ := h.form
  have HR := Lib.hid h
  clear h
  go_enter Try.func4, Try.ntmps4
  go_wp2_with fail
  refine (new_pu most w ⟨m0, m1⟩).mono ?_
  rintro e wa ⟨rfl, hp1, hb1⟩
  have HP1 := Lib.hid hp1
  have B1 := Lib.hid hb1
  have s1 := hb1.size
  obtain ⟨B, HBZ⟩ : ∃ B, Hid (w.heap.size = B) := ⟨_, Lib.hid rfl⟩
  rw [HBZ.out] at HP1 B1 s1 ⊢
  clear hp1 hb1
  go_upto_region 11 with fail
  have HW : Hid (Pw B B wa.heap.size (fun _ => .slice none 0 0) (.slice none 0 0) (empty most) (r0 most) (wa.alloc (.cells #[.int .i64 most, .slice none 0 0, .int .i64 0, .bool false, .int .u64 0, .int .u64 0, .int .u64 0, .int .u64 0, .int .u64 0, .int .u64 0, .int .u64 0, .int .u64 0, .bool false, .bool false, .bool false, .bool false, .bool false, .bool false, .bool false, .bool false] TRp))) := Lib.hid
    ⟨HP1.out.keptF ((Kept.refl (fun _ => False) wa).alloc _), ⟨Ob.new _ _ _, World.ownsRow_nil _ _ _ _, fun hh => (by cases hh), s1⟩, fun x hx hh => by
      rcases hh with rfl | hh
      · have := (HP1.out.lt _ hx).2; omega
      · cases hh⟩
  have B2 := Lib.hid (B1.out.alloc s1 (.cells #[.int .i64 most, .slice none 0 0, .int .i64 0, .bool false, .int .u64 0, .int .u64 0, .int .u64 0, .int .u64 0, .int .u64 0, .int .u64 0, .int .u64 0, .int .u64 0, .bool false, .bool false, .bool false, .bool false, .bool false, .bool false, .bool false, .bool false] TRp))
  generalize wa.alloc (.cells #[.int .i64 most, .slice none 0 0, .int .i64 0, .bool false, .int .u64 0, .int .u64 0, .int .u64 0, .int .u64 0, .int .u64 0, .int .u64 0, .int .u64 0, .int .u64 0, .bool false, .bool false, .bool false, .bool false, .bool false, .bool false, .bool false, .bool false] TRp) = w2 at *
  generalize wa.heap.size = r at *
  have hok0 : Hid ((empty most).ok 0) := Lib.hid (empty_ok m0 m1)
  clear HP1 B1
  go_loopw [9] (fun z wr => ∃ (i : Nat) (s : Ps) (t : Rs) (V : Nat → Value) (U : Value), z = .int .i64 i ∧ i ≤ l.length ∧ Pw B B r V U s t wr ∧ Below B w wr ∧ Hid (s.ok i) ∧ Hid (Sim s t)) (fun a _ => l.length - (intOf a).toNat)
  case atStart => exact ⟨0, _, _, _, _, rfl, Nat.zero_le _, HW.out, B2.out, hok0, Lib.hid (sim_start most)⟩
  case round =>
    obtain ⟨i, s, t, V, U, rfl, hi, hpw, hb, HO, HS⟩ := hrel
    have HPW := Lib.hid hpw
    have HB := Lib.hid hb
    have hlo := hpw.lo
    clear hpw hb HW B2 hok0
    by_cases hlt : i < l.length
    · obtain ⟨g, o, rfl, hg, cw⟩ := Rd.row rowStp (by decide) (HR.out.below (by rw [HBZ.out]; exact HB.out)) i hlt
      obtain ⟨x, HX⟩ : ∃ x, Hid (l[i] = x) := ⟨_, Lib.hid rfl⟩
      rw [HX.out] at cw
      have cf0 := cw 0 (.int .i64 x.kind) rfl
      have cf1 := cw 1 (.int .i64 x.peer) rfl
      have cf2 := cw 2 (.int .u64 x.id) rfl
      have cf3 := cw 3 (.int .i64 x.n) rfl
      rw [Nat.add_zero] at cf0
      have hdi : decide (i < l.length) = true := decide_eq_true hlt
      clear cw
      go_upto_region 14 with fail
      have HPX := Lib.hid (HPW.out.keptF ((Kept.refl (fun _ => False) wr).alloc (.cells #[.int .i64 x.kind, .int .i64 x.peer, .int .u64 x.id, .int .i64 x.n] TSt)))
      have OX := Lib.hid (Ob.new wr #[.int .i64 x.kind, .int .i64 x.peer, .int .u64 x.id, .int .i64 x.n] TSt)
      have HBX := Lib.hid (HB.out.alloc hlo (.cells #[.int .i64 x.kind, .int .i64 x.peer, .int .u64 x.id, .int .i64 x.n] TSt))
      have nX1 : Hid (∀ y, PM B V y → y < wr.heap.size) := Lib.hid (fun y hy => (HPW.out.pp.lt y hy).2)
      have nX2 : Hid (∀ y, RM r U y → y < wr.heap.size) := Lib.hid (fun y hy => (HPW.out.rr.lt y hy).2)
      generalize wr.alloc (.cells #[.int .i64 x.kind, .int .i64 x.peer, .int .u64 x.id, .int .i64 x.n] TSt) = wx at *
      generalize wr.heap.size = X at *
      clear cf0 cf1 cf2 cf3 HPW HB hg
      obtain ⟨lx, cx, fx⟩ := OX.out.blk
      have cx0 : wx.cell? ⟨X, 0, none⟩ = some (.int .i64 x.kind) := cx 0
      clear cx
      go_upto_block 2 with fail
      go_cut [11, 12, 13, 14, 15, 16, 17, 18] from 72 to 139 (fun s11 s12 s13 s14 s15 s16 s17 s18 wy => ∃ (s' : Ps) (t' : Rs) (V' : Nat → Value) (U' : Value), Pw B B r V' U' s' t' wy ∧ Below B w wy ∧ Ob wy X #[.int .i64 x.kind, .int .i64 x.peer, .int .u64 x.id, .int .i64 x.n] TSt ∧ Hid (s'.ok ((i : Int) + 1)) ∧ Hid (Sim s' t'))
      case first =>
        clear cx0
        have hok := sim_ok HS.out HO.out
        have HOK := Lib.hid hok
        clear hok
        have nbX : ¬ PM B V X := fun hh => by have := nX1.out X hh; omega
        have nrX : ¬ RM r U X := fun hh => by have := nX2.out X hh; omega
        have NN := Lib.hid (And.intro nbX nrX)
        clear nbX nrX
        by_cases hk1 : x.kind = 1
        · as_aux_lemma =>
          have kb1 : (x.kind == 1) = true := beq_iff_eq.2 hk1
          clear hk1
          obtain ⟨lx, cx, fx⟩ := OX.out.blk
          have cx1 : wx.cell? ⟨X, 1, none⟩ = some (.int .i64 x.peer) := cx 1
          have cx2 : wx.cell? ⟨X, 2, none⟩ = some (.int .u64 x.id) := cx 2
          have cx3 : wx.cell? ⟨X, 3, none⟩ = some (.int .i64 x.n) := cx 3
          clear cx
          have nb := not_bar X
          go_wp2_with fail
          refine wp_run (M := (Bar X)) (stages [([true, true, true, true, true, true, true, false, true, true, true, true, true, true, true, false, false], 7), ([false, false, false, false, false, false, false, false, false, false, false, false, false, false, false, false, false], 15)] [false, false, false, false, false, false, false, false, false, false, false, false, false, false, false, false, true]) (by kernel_rfl) (by kernel_rfl) ?_
          refine run_stage rfl ?_
          simp only [pickAt]
          repeat (go_big_quiet_step (fail))
          refine wpQuiet_nil ?_
          refine run_want rfl ?_
          intro A hA
          go_simp
          refine (want_sim x.peer x.id x.n (HPX.out.pp.keptF (Kept.drew _ _)) HO.out (by omega) HS.out).mono ?_
          rintro e w3 ⟨c3, s3, rfl, hpo, ho3, hs3⟩
          obtain ⟨V3, hp3, hb3, hk3⟩ := (HPX.out.keptF (Kept.drew _ _)).first hpo
          have HP3 := Lib.hid hp3
          have HB3 := Lib.hid (HBX.out.drew.trans hb3)
          have OX3 := Lib.hid (OX.out.drew.kept hk3 NN.out.1)
          have HO3 := Lib.hid ho3
          have HS3 := Lib.hid hs3
          refine hA _ _ ((hk3.mono (fun y _ hy hyx => NN.out.1 (by rw [← hyx]; exact hy)))) ?_
          try simp only [Act.put, List.setIfInBounds_toArray, List.set_cons_zero, List.set_cons_succ]
          clear A hA
          clear hpo hp3 hb3 hk3 ho3 hs3
          refine run_stage rfl ?_
          simp only [pickAt]
          repeat (go_big_quiet_step (fail))
          refine wpQuiet_nil ?_
          refine run_want rfl ?_
          intro A hA
          go_simp
          refine (rwant_all x.peer x.id x.n HP3.out.rr HOK.out.len HOK.out.fl).mono ?_
          rintro e w4 ⟨c4, l4, hw4, rfl, hpo⟩
          obtain ⟨rfl, hs4⟩ := HS3.out c4 l4 hw4
          obtain ⟨U4, hp4, hb4, hk4⟩ := HP3.out.second hpo
          have HP4 := Lib.hid hp4
          have HB4 := Lib.hid (HB3.out.trans hb4)
          have OX4 := Lib.hid (OX3.out.kept hk4 NN.out.2)
          have HS4 := Lib.hid hs4
          refine hA _ _ ((hk4.mono (fun y _ hy hyx => NN.out.2 (by rw [← hyx]; exact hy)))) ?_
          try simp only [Act.put, List.setIfInBounds_toArray, List.set_cons_zero, List.set_cons_succ]
          clear A hA
          clear hpo hp4 hb4 hk4 hw4 hs4
          refine run_last ?_
          simp only [pickAt]
          repeat (go_big_quiet_step (fail))
          refine wpQuiet_nil ?_
          go_wp2_with fail
          go_meet
          exact ⟨s3, _, V3, U4, HP4.out, HB4.out, OX4.out, Lib.hid (ok_mono HO3.out (by omega)), HS4⟩
        · by_cases hk2 : x.kind = 2
          · as_aux_lemma =>
            have kb1 : (x.kind == 1) = false := beq_eq_false_iff_ne.2 hk1
            have kb2 : (x.kind == 2) = true := beq_iff_eq.2 hk2
            clear hk1 hk2
            go_wp2_with fail
            refine (next_sim HPX.out.pp HO.out (by omega) HS.out).mono ?_
            rintro e w3 ⟨p3, id3, n3, k3, s3, t3, rfl, hpo, ho3, hs3, hn3⟩
            obtain ⟨V3, hp3, hb3, hk3⟩ := HPX.out.first hpo
            have HP3 := Lib.hid hp3
            have HB3 := Lib.hid (HBX.out.trans hb3)
            have OX3 := Lib.hid (OX.out.kept hk3 NN.out.1)
            have HO3 := Lib.hid ho3
            have HS3 := Lib.hid hs3
            have HN3 := Lib.hid hn3
            clear hpo hp3 hb3 hk3 ho3 hs3 hn3
            go_wp2_with fail
            refine (rnext r B U t i _ HP3.out.rr HOK.out (by omega)).mono ?_
            intro e w4 hn4
            obtain ⟨rfl, hpo⟩ := HN3.out _ _ _ _ _ hn4
            obtain ⟨U4, hp4, hb4, hk4⟩ := HP3.out.second hpo
            have HP4 := Lib.hid hp4
            have HB4 := Lib.hid (HB3.out.trans hb4)
            have OX4 := Lib.hid (OX3.out.kept hk4 NN.out.2)
            clear hpo hp4 hb4 hk4 hn4
            go_wp2_with fail
            go_meet
            exact ⟨s3, t3, V3, U4, HP4.out, HB4.out, OX4.out, HO3, HS3⟩
          · by_cases hk3 : x.kind = 3
            · as_aux_lemma =>
              have kb1 : (x.kind == 1) = false := beq_eq_false_iff_ne.2 hk1
              have kb2 : (x.kind == 2) = false := beq_eq_false_iff_ne.2 hk2
              have kb3 : (x.kind == 3) = true := beq_iff_eq.2 hk3
              clear hk1 hk2 hk3
              obtain ⟨lx, cx, fx⟩ := OX.out.blk
              have cx1 : wx.cell? ⟨X, 1, none⟩ = some (.int .i64 x.peer) := cx 1
              have cx2 : wx.cell? ⟨X, 2, none⟩ = some (.int .u64 x.id) := cx 2
              clear cx
              have nb := not_bar X
              go_wp2_with fail
              refine wp_run (M := (Bar X)) (stages [([true, true, true, true, true, false, true, true, true, true, true, false, false], 5), ([false, false, false, false, false, false, false, false, false, false, false, false, false], 11)] [false, false, false, false, false, false, false, false, false, false, false, false, true]) (by kernel_rfl) (by kernel_rfl) ?_
              refine run_stage rfl ?_
              simp only [pickAt]
              repeat (go_big_quiet_step (fail))
              refine wpQuiet_nil ?_
              refine run_want rfl ?_
              intro A hA
              go_simp
              refine (drop_sim x.peer x.id (HPX.out.pp.keptF (Kept.drew _ _)) HO.out HS.out).mono ?_
              rintro e w3 ⟨rfl, s3, hpo, ho3, hs3⟩
              obtain ⟨V3, hp3, hb3, hk3⟩ := (HPX.out.keptF (Kept.drew _ _)).first hpo
              have HP3 := Lib.hid hp3
              have HB3 := Lib.hid (HBX.out.drew.trans hb3)
              have OX3 := Lib.hid (OX.out.drew.kept hk3 NN.out.1)
              have HO3 := Lib.hid ho3
              have HS3 := Lib.hid hs3
              refine hA _ _ ((hk3.mono (fun y _ hy hyx => NN.out.1 (by rw [← hyx]; exact hy)))) ?_
              try simp only [Act.put, List.setIfInBounds_toArray, List.set_cons_zero, List.set_cons_succ]
              clear A hA
              clear hpo hp3 hb3 hk3 ho3 hs3
              refine run_stage rfl ?_
              simp only [pickAt]
              repeat (go_big_quiet_step (fail))
              refine wpQuiet_nil ?_
              refine run_want rfl ?_
              intro A hA
              go_simp
              refine (rdrop r B U t x.peer x.id _ HP3.out.rr HOK.out.len).mono ?_
              rintro e w4 ⟨rfl, hpo⟩
              obtain ⟨U4, hp4, hb4, hk4⟩ := HP3.out.second hpo
              have HP4 := Lib.hid hp4
              have HB4 := Lib.hid (HB3.out.trans hb4)
              have OX4 := Lib.hid (OX3.out.kept hk4 NN.out.2)
              refine hA _ _ ((hk4.mono (fun y _ hy hyx => NN.out.2 (by rw [← hyx]; exact hy)))) ?_
              try simp only [Act.put, List.setIfInBounds_toArray, List.set_cons_zero, List.set_cons_succ]
              clear A hA
              clear hpo hp4 hb4 hk4
              refine run_last ?_
              simp only [pickAt]
              repeat (go_big_quiet_step (fail))
              refine wpQuiet_nil ?_
              go_wp2_with fail
              go_meet
              exact ⟨s3, _, V3, U4, HP4.out, HB4.out, OX4.out, Lib.hid (ok_mono HO3.out (by omega)), HS3⟩
            · as_aux_lemma =>
              have kb1 : (x.kind == 1) = false := beq_eq_false_iff_ne.2 hk1
              have kb2 : (x.kind == 2) = false := beq_eq_false_iff_ne.2 hk2
              have kb3 : (x.kind == 3) = false := beq_eq_false_iff_ne.2 hk3
              clear hk1 hk2 hk3
              go_wp2_with fail
              go_meet
              exact ⟨s, t, V, U, HPX.out, HBX.out, OX.out, Lib.hid (ok_mono HO.out (by omega)), HS⟩
      case rest =>
        obtain ⟨s', t', V', U', hpw, hb, hox, HO', HS'⟩ := hcut
        have HPC := Lib.hid hpw
        have HBC := Lib.hid hb
        have OXC := Lib.hid hox
        have hlc := hpw.lo
        have hok := sim_ok HS'.out HO'.out
        have HOK := Lib.hid hok
        obtain ⟨lx, cx, fx⟩ := hox.blk
        have cx1 : wc.cell? ⟨X, 1, none⟩ = some (.int .i64 x.peer) := cx 1
        have cx2 : wc.cell? ⟨X, 2, none⟩ = some (.int .u64 x.id) := cx 2
        obtain ⟨y, HY⟩ : ∃ y, Hid (rat t'.l (t'.l.findIdx? (Rf.is x.peer x.id)) = y) := ⟨_, Lib.hid rfl⟩
        clear cx cx0 hok hpw hb hox
        go_wp2_with fail
        refine (rof r B U' t' x.peer x.id _ HPC.out.rr HOK.out.len).mono ?_
        rw [HY.out]
        rintro e w3 ⟨rfl, hk3⟩
        have HP3 := Lib.hid (HPC.out.keptF hk3)
        have HB3 := Lib.hid (HBC.out.trans (hk3.below.mono hlc))
        have OX3 := Lib.hid (OXC.out.kept hk3 id)
        clear hk3 cx1 cx2 lx fx
        obtain ⟨lx, cx, fx⟩ := OX3.out.blk
        have cx1 : w3.cell? ⟨X, 1, none⟩ = some (.int .i64 x.peer) := cx 1
        have cx2 : w3.cell? ⟨X, 2, none⟩ = some (.int .u64 x.id) := cx 2
        clear cx
        go_wp2_with fail
        refine (waits_sim x.peer x.id HP3.out.pp HO'.out HS'.out).mono ?_
        rw [HY.out]
        rintro e w4 ⟨rfl, hb4⟩
        have HP4 := Lib.hid (HP3.out.below hb4)
        have HB4 := Lib.hid (HB3.out.trans (hb4.mono HP3.out.lo))
        have OX4 := Lib.hid (OX3.out.below hb4)
        clear hb4 cx1 cx2 lx fx
        obtain ⟨lx, cx, fx⟩ := OX4.out.blk
        have cx1 : w4.cell? ⟨X, 1, none⟩ = some (.int .i64 x.peer) := cx 1
        have cx2 : w4.cell? ⟨X, 2, none⟩ = some (.int .u64 x.id) := cx 2
        clear cx
        go_wp2_with fail
        refine (pulled_sim x.peer x.id HP4.out.pp HO'.out HS'.out).mono ?_
        rw [HY.out]
        rintro e w5 ⟨rfl, hb5⟩
        have HP5 := Lib.hid (HP4.out.below hb5)
        have HB5 := Lib.hid (HB4.out.trans (hb5.mono HP4.out.lo))
        clear hb5 cx1 cx2 lx fx
        go_wp2_with fail
        refine (len_sim HP5.out.pp HO'.out HS'.out).mono ?_
        rintro e w6 ⟨rfl, hb6⟩
        have HP6 := Lib.hid (HP5.out.below hb6)
        have HB6 := Lib.hid (HB5.out.trans (hb6.mono HP5.out.lo))
        clear hb6
        go_wp2_with fail
        refine (rlen r B U' t' _ HP6.out.rr HOK.out.len HOK.out.fl).mono ?_
        rintro e w7 ⟨rfl, rfl⟩
        go_wp2_with fail
        go_roundw
        case rel => exact ⟨i + 1, s', t', V', U', by go_num, by omega, HP6.out, HB6.out, Lib.hid (by have := HO'.out; rw [show ((i + 1 : Nat) : Int) = (i : Int) + 1 by omega]; exact this), HS'⟩
        case measure => simp [intOf]; omega
    · obtain rfl : l.length = i := by omega
      have hdi : decide (l.length < l.length) = false := decide_eq_false (Nat.lt_irrefl _)
      go_wp2_with fail
      refine (awake_any _).mono ?_
      rintro e w8 ⟨rfl, hb8⟩
      go_wp2_with fail
      go_ret
      refine ⟨by simp, ?_⟩
      rw [HBZ.out]
      exact HB.out.trans (hb8.mono hlo)
end Go.Proofs.Ytohjnplhmbfjlaa
