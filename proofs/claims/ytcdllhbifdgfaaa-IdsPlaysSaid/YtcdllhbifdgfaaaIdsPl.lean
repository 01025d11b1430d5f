/- The law IdsPlays (chapter 9), walked. -/
import Derived.Test.YtcdllhbifdgfaaaIdsRg
import Derived.Test.YtcdllhbifdgfaaaStruct
namespace Go.Proofs.Ytcdllhbifdgfaaa
open Go.ChangeShapes Go.WideShapes Go.ChangeAt Go.RowKit Go.Joins Go.Deep

structure Ws where
  kind : Int
  n : Int
def Ws.row (s : Ws) : List Value := [.int .i64 s.kind, .int .u64 s.n]
def Ws.good (s : Ws) : Prop := (-9223372036854775808 ≤ s.kind ∧ s.kind ≤ 9223372036854775807) ∧ (0 ≤ s.n ∧ s.n ≤ 18446744073709551615)
theorem open_wsteps {H : Type} {enc : TypeId × Value → H} {W : World} {r : Reach} {b0 : Nat} {v : Value} {d : DataW H} {p : List MemPlace}
    (hv : Value.okWide Try.prog W r b0 41 v) (h : DataW.Trod enc Try.prog W 0 (fun _ => true) true 41 v d p) : ∃ l : List Ws, Rd W 2 v l.length (l.flatMap Ws.row) ∧ ∀ x ∈ l, x.good := by
  refine open_rowsR Ws.row Ws.good 2 (fun _ => rfl) Try.underlying41 Try.underlying47 (by kernel_rfl) (by kernel_rfl) rfl hv (fun u hf => ?_) h
  obtain ⟨y0, m0, t0⟩ := hf 0 _ rfl
  obtain ⟨x0, e0, _, w0⟩ := DataW.trod_int Try.underlying3 t0
  replace e0 := (List.cons.inj e0).1
  obtain ⟨y1, m1, t1⟩ := hf 1 _ rfl
  obtain ⟨x1, e1, _, w1⟩ := DataW.trod_int Try.underlying29 t1
  replace e1 := (List.cons.inj e1).1
  refine ⟨⟨x0, x1⟩, ⟨wf_i64 w0, wf_u64 w1⟩, fun j hj => ?_⟩
  match j, hj with
  | 0, _ => rw [e0]; rfl
  | 1, _ => rw [e1]; rfl
  | j + 2, hj => omega
theorem rowWs (x : Ws) : x.row.length = 2 := rfl
/-- a window and the document's, side by side -/
structure Pw (B m : Nat) (V S : Value) (s t : Wd) (w : World) : Prop where
  a : Wi B B V s w
  b : Mw m B S t w
  ap : ∀ x, WM B V x → x ≠ m ∧ S.ownBlock ≠ some x
theorem Pw.first {B m : Nat} {V S : Value} {s t s' : Wd} {w w' : World} (h : Pw B m V S s t w) (hp : WiPost B B V s' w w') : ∃ V', Pw B m V' S s' t w' ∧ Below B w w' := by
  obtain ⟨V', h1, h2, h3⟩ := hp
  refine ⟨V', ⟨h1, h.b.kept h2 (fun hh => (h.ap m hh).1 rfl) (fun x hx hh => (h.ap x hh).2 hx), fun x hx => ?_⟩, h2.belowAt (Nat.le_of_lt h.a.ob.lt) (fun x hx => (h.a.lt x hx).1)⟩
  rcases h3 x hx with hh | hh
  · exact h.ap x hh
  · have h4 := h.b.ob.lt
    exact ⟨by omega, fun h5 => by have := (h.b.ap x h5).2.2; omega⟩
theorem Pw.second {B m : Nat} {V S : Value} {s t t' : Wd} {w w' : World} (h : Pw B m V S s t w) (hp : MwPost m B S t' w w') : ∃ S', Pw B m V S' s t' w' ∧ Below B w w' := by
  obtain ⟨S', h1, h2, h3⟩ := hp
  refine ⟨S', ⟨h.a.kept h2 (fun x hx hh => (h.ap x hx).1 hh), h1, fun x hx => ⟨(h.ap x hx).1, fun h5 => ?_⟩⟩, h2.belowAt (Nat.le_of_lt h.a.ob.lt) (fun x hx => by rw [show x = m from hx]; exact h.b.mB)⟩
  rcases h3 x h5 with hh | hh
  · exact (h.ap x hx).2 hh
  · have := (h.a.lt x hx).2; omega
theorem Pw.kept {B m : Nat} {V S : Value} {s t : Wd} {w w' : World} (h : Pw B m V S s t w) (hk : Kept (fun _ => False) w w') : Pw B m V S s t w' := ⟨h.a.kept hk fun _ _ hh => hh, h.b.keptF hk, h.ap⟩
theorem Pw.drew {B m : Nat} {V S : Value} {s t : Wd} {w : World} (h : Pw B m V S s t w) : Pw B m V S s t w.drew := h.kept (Kept.drew _ _)
theorem Pw.alloc {B m : Nat} {V S : Value} {s t : Wd} {w : World} (h : Pw B m V S s t w) (o : Obj) : Pw B m V S s t (w.alloc o) := h.kept ((Kept.refl _ _).alloc o)
/-- what the calls of a step may change -/
def PM (B m : Nat) (V : Value) : Nat → Prop := fun x => WM B V x ∨ x = m
set_option maxRecDepth 100000 in
set_option maxHeartbeats 8000000 in
theorem plays_in (most : Int) (l : List Ws) (r : List Int) (v u : Value) (w : World) (h : Rd w 2 v l.length (l.flatMap Ws.row)) (h' : Rd w 1 u r.length (r.map (Value.int .u64))) (hl : l.length ≤ 100) (hr : r.length ≤ 30) (hg : ∀ x ∈ l, 0 ≤ x.n) (hg' : ∀ x ∈ r, 0 ≤ x)
    (m0 : 1 ≤ most) (m1 : most ≤ 100000) : Calls Try.prog 5 #[.int .i64 most, v, u] w (TrueBelow w) := by
  obtain ⟨v, cp, rfl, h1, h2⟩ := h.form
  obtain ⟨u, cq, rfl, h3, h4⟩ := h'.form
  have HR := Lib.hid h
  have HR' := Lib.hid h'
  have HG := Lib.hid hg
  have HG' := Lib.hid hg'
  clear h h' hg hg'
  go_enter Try.func5, Try.ntmps5
  go_wp2_with fail
  refine (new_yes most _ ⟨m0, m1⟩).mono ?_
  rintro e w1 ⟨rfl, hw, hb⟩
  have HB := Lib.hid hb
  have HW := Lib.hid hw
  have s1 := hb.size
  have l1 := hw.ob.lt
  clear hw hb
  go_wp2_with fail
  generalize hB : w.heap.size = B at *
  have HBQ := Lib.hid hB
  clear hB
  have hap : ∀ x, WM B (.slice none 0 0) x → x ≠ w1.heap.size ∧ (Value.slice none 0 0).ownBlock ≠ some x := fun x hx => by
    rcases hx with rfl | hx
    · exact ⟨by omega, fun hh => by cases hh⟩
    · cases hx
  have HP0 : Hid (Pw B w1.heap.size (.slice none 0 0) (.slice none 0 0) ⟨most, 1, []⟩ ⟨most, 1, []⟩ (w1.alloc (.cells #[.int .i64 most, .int .u64 1, .slice none 0 0] TM))) := Lib.hid ⟨HW.out.alloc _, ⟨Ob.new _ _ _, Rd.nil _ _, fun x hx => (by cases hx), s1, fun a l c he => (by cases he)⟩, hap⟩
  clear hap
  have HB0 := Lib.hid (HB.out.alloc s1 (.cells #[.int .i64 most, .int .u64 1, .slice none 0 0] TM))
  generalize w1.heap.size = m at *
  generalize w1.alloc (.cells #[.int .i64 most, .int .u64 1, .slice none 0 0] TM) = w2 at *
  clear HW HB
  go_loopw [11] (fun i wr => ∃ (k : Nat) (V S : Value) (s : Wd), i = .int .i64 k ∧ k ≤ l.length ∧ Pw B m V S s s wr ∧ s.ok ∧ Below B w wr) (fun i _ => l.length - (intOf i).toNat)
  case atStart => exact ⟨0, _, _, _, rfl, Nat.zero_le _, HP0.out, new_ok m0 m1, HB0.out⟩
  case round =>
    obtain ⟨k, V, S, s, rfl, hk, hp, ho, hb⟩ := hrel
    have HP := Lib.hid hp
    have HO := Lib.hid ho
    have HBk := Lib.hid hb
    have sk : B ≤ wr.heap.size := by have := hb.size; rw [HBQ.out] at this; exact this
    clear hp ho hb
    by_cases hlt : k < l.length
    · obtain ⟨b, o, rfl, hbo, cw⟩ := Rd.row rowWs (by decide) (HR.out.below (by rw [HBQ.out]; exact HBk.out)) k hlt
      have hx0 := HG.out l[k] (List.getElem_mem hlt)
      generalize l[k] = x at *
      have c0 := cw 0 (.int .i64 x.kind) rfl
      have c1 := cw 1 (.int .u64 x.n) rfl
      rw [Nat.add_zero] at c0
      clear cw
      go_upto_region 14 with fail
      have OX := Lib.hid (Ob.new wr #[.int .i64 x.kind, .int .u64 x.n] 47)
      have HP1 := Lib.hid (HP.out.alloc (.cells #[.int .i64 x.kind, .int .u64 x.n] 47))
      have B1 := Lib.hid (HBk.out.alloc sk (.cells #[.int .i64 x.kind, .int .u64 x.n] 47))
      have hXm : ¬ PM B m V wr.heap.size := fun hh => by
        rcases hh with hh | hh
        · have := (HP.out.a.lt _ hh).2; omega
        · have := HP.out.b.ob.lt; omega
      have HXM := Lib.hid hXm
      clear hXm c0 c1 hbo
      generalize wr.alloc (.cells #[.int .i64 x.kind, .int .u64 x.n] 47) = wx at *
      generalize wr.heap.size = X at *
      have sx : B ≤ wx.heap.size := by have := B1.out.size; rw [HBQ.out] at this; exact this
      obtain ⟨lx, cx, fx⟩ := OX.out.blk
      have c0 : wx.cell? ⟨X, 0, none⟩ = some (.int .i64 x.kind) := cx 0
      have c1 : wx.cell? ⟨X, 1, none⟩ = some (.int .u64 x.n) := cx 1
      clear cx
      go_upto_block 2 with fail
      go_cut [12] from 58 to 119 (fun s12 wc => s12 = .pointer (some ⟨X, 0, none⟩) ∧ ∃ (V S : Value) (s : Wd), Pw B m V S s s wc ∧ s.ok ∧ Below B w wc ∧ Ob wc X #[.int .i64 x.kind, .int .u64 x.n] 47)
      case first =>
        by_cases k1 : x.kind = 1
        · have kb : (x.kind == 1) = true := beq_iff_eq.2 k1
          clear k1
          go_wp2_with fail
          have hnx := HXM.out
          refine wp_run (M := (PM B m V)) (stages [([true, true, true, false, true, true, true, false, false], 3), ([false, false, false, false, false, false, false, false, false], 7)] [false, false, false, false, false, false, false, false, true]) (by kernel_rfl) (by kernel_rfl) ?_
          refine run_stage rfl ?_
          simp only [pickAt]
          repeat (go_big_quiet_step (fail))
          refine wpQuiet_nil ?_
          refine run_want rfl ?_
          intro A hA
          go_simp
          refine (done_any B B V s x.n _ HP1.out.drew.a HO.out hx0).mono ?_
          rintro e w3 ⟨rfl, hp3⟩
          obtain ⟨V3, hw3, hb3⟩ := HP1.out.drew.first hp3
          have hk3 : Kept (PM B m V) wx.drew w3 := by obtain ⟨_, _, hk, _⟩ := hp3; exact hk.mono fun y _ hy => .inl hy
          have HP3 := Lib.hid hw3
          have B3 := Lib.hid (B1.out.drew.trans hb3)
          have OX3 := Lib.hid (OX.out.drew.kept hk3 hnx)
          refine hA _ _ (hk3) ?_
          try simp only [Act.put, List.setIfInBounds_toArray, List.set_cons_zero, List.set_cons_succ]
          clear A hA
          clear hp3 hw3 hb3 hk3
          refine run_stage rfl ?_
          simp only [pickAt]
          repeat (go_big_quiet_step (fail))
          refine wpQuiet_nil ?_
          refine run_want rfl ?_
          intro A hA
          go_simp
          refine (doner_any m B S s x.n _ HP3.out.b HO.out hx0).mono ?_
          rintro e w4 ⟨rfl, hp4⟩
          obtain ⟨S4, hw4, hb4⟩ := HP3.out.second hp4
          have hk4 : Kept (PM B m V) w3 w4 := by obtain ⟨_, _, hk, _⟩ := hp4; exact hk.mono fun y _ hy => .inr hy
          have HP4 := Lib.hid hw4
          have B4 := Lib.hid (B3.out.trans hb4)
          have OX4 := Lib.hid (OX3.out.kept hk4 hnx)
          refine hA _ _ (hk4) ?_
          try simp only [Act.put, List.setIfInBounds_toArray, List.set_cons_zero, List.set_cons_succ]
          clear A hA
          clear hp4 hw4 hb4 hk4 hnx
          refine run_last ?_
          simp only [pickAt]
          repeat (go_big_quiet_step (fail))
          refine wpQuiet_nil ?_
          go_wp2_with fail
          go_meet
          exact ⟨rfl, V3, S4, (s.done x.n), HP4.out, done_ok HO.out x.n hx0, B4.out, OX4.out⟩
        · by_cases k2 : x.kind = 2
          · have kb : (x.kind == 1) = false := beq_eq_false_iff_ne.2 k1
            have kb2 : (x.kind == 2) = true := beq_iff_eq.2 k2
            clear k1 k2
            go_wp2_with fail
            have hnx := HXM.out
            refine wp_run (M := (PM B m V)) (stages [([true, true, true, false, true, true, true, false, false], 3), ([false, false, false, false, false, false, false, false, false], 7)] [false, false, false, false, false, false, false, false, true]) (by kernel_rfl) (by kernel_rfl) ?_
            refine run_stage rfl ?_
            simp only [pickAt]
            repeat (go_big_quiet_step (fail))
            refine wpQuiet_nil ?_
            refine run_want rfl ?_
            intro A hA
            go_simp
            refine (retire_any B B V s x.n _ HP1.out.drew.a HO.out hx0).mono ?_
            rintro e w3 ⟨rfl, hp3⟩
            obtain ⟨V3, hw3, hb3⟩ := HP1.out.drew.first hp3
            have hk3 : Kept (PM B m V) wx.drew w3 := by obtain ⟨_, _, hk, _⟩ := hp3; exact hk.mono fun y _ hy => .inl hy
            have HP3 := Lib.hid hw3
            have B3 := Lib.hid (B1.out.drew.trans hb3)
            have OX3 := Lib.hid (OX.out.drew.kept hk3 hnx)
            refine hA _ _ (hk3) ?_
            try simp only [Act.put, List.setIfInBounds_toArray, List.set_cons_zero, List.set_cons_succ]
            clear A hA
            clear hp3 hw3 hb3 hk3
            refine run_stage rfl ?_
            simp only [pickAt]
            repeat (go_big_quiet_step (fail))
            refine wpQuiet_nil ?_
            refine run_want rfl ?_
            intro A hA
            go_simp
            refine (retirer_any m B S s x.n _ HP3.out.b HO.out hx0).mono ?_
            rintro e w4 ⟨rfl, hp4⟩
            obtain ⟨S4, hw4, hb4⟩ := HP3.out.second hp4
            have hk4 : Kept (PM B m V) w3 w4 := by obtain ⟨_, _, hk, _⟩ := hp4; exact hk.mono fun y _ hy => .inr hy
            have HP4 := Lib.hid hw4
            have B4 := Lib.hid (B3.out.trans hb4)
            have OX4 := Lib.hid (OX3.out.kept hk4 hnx)
            refine hA _ _ (hk4) ?_
            try simp only [Act.put, List.setIfInBounds_toArray, List.set_cons_zero, List.set_cons_succ]
            clear A hA
            clear hp4 hw4 hb4 hk4 hnx
            refine run_last ?_
            simp only [pickAt]
            repeat (go_big_quiet_step (fail))
            refine wpQuiet_nil ?_
            go_wp2_with fail
            go_meet
            exact ⟨rfl, V3, S4, _, HP4.out, goes_ok HO.out _ (by omega), B4.out, OX4.out⟩
          · have kb : (x.kind == 1) = false := beq_eq_false_iff_ne.2 k1
            have kb2 : (x.kind == 2) = false := beq_eq_false_iff_ne.2 k2
            clear k1 k2
            go_wp2_with fail
            go_meet
            exact ⟨rfl, V, S, s, HP1.out, HO.out, B1.out, OX.out⟩
      case rest =>
      obtain ⟨rfl, V2, S2, s2, hp, ho, hb, hox⟩ := hcut
      have HP2 := Lib.hid hp
      have HO2 := Lib.hid ho
      have B2 := Lib.hid hb
      obtain ⟨lx2, cx2, fx2⟩ := hox.blk
      have c12 : wc.cell? ⟨X, 1, none⟩ = some (.int .u64 x.n) := cx2 1
      obtain ⟨lm2, cm2, fm2⟩ := hp.b.ob.blk
      obtain ⟨am, cm, hvm, _, _⟩ := hp.b.rd.form
      have cm21 : wc.cell? ⟨m, 1, none⟩ = some (.int .u64 s2.mark) := cm2 1
      have cm22 : wc.cell? ⟨m, 2, none⟩ = some (.slice am s2.l.length cm) := by rw [cm2 2, hvm]; rfl
      clear cx2 cm2 hp ho hb hox c0 c1 lx fx HP HO HBk HP1 B1 OX
      go_wp2_with fail
      refine wp_run (M := (fun _ => False)) (stages [([true, true, true, false, true, true, true, false, false, false, false, false, false, false, false, false, false, false, false, false, false, false, false, false, false, false, false, false], 3), ([false, false, false, false, false, false, false, false, false, false, false, false, false, false, false, false, false, false, false, false, false, false, false, false, false, false, false, false], 7), ([false, false, false, false, false, false, false, false, true, true, true, false, true, true, true, true, false, false, false, false, false, false, false, false, false, false, false, false], 11), ([false, false, false, false, false, false, false, false, false, false, false, false, false, false, false, false, true, true, true, true, false, true, true, true, true, true, false, false], 20)] [false, false, false, false, false, false, false, false, false, false, false, false, false, false, false, false, false, false, false, false, false, false, false, false, false, false, true, true]) (by kernel_rfl) (by kernel_rfl) ?_
      refine run_stage rfl ?_
      simp only [pickAt]
      repeat (go_big_quiet_step (fail))
      refine wpQuiet_nil ?_
      refine run_want rfl ?_
      intro A hA
      go_simp
      refine (is_any B B V2 s2 x.n _ HP2.out.drew.a HO2.out).mono ?_
      rintro e w3 ⟨rfl, q3, rfl⟩
      have HP3 := Lib.hid (HP2.out.kept (Kept.dn _ _ (1 + q3)))
      have B3 := Lib.hid (below_dn (n := 1 + q3) B2.out)
      refine hA _ _ ((Kept.dn _ _ _)) ?_
      try simp only [Act.put, List.setIfInBounds_toArray, List.set_cons_zero, List.set_cons_succ]
      clear A hA
      refine run_stage rfl ?_
      simp only [pickAt]
      repeat (go_big_quiet_step (fail))
      refine wpQuiet_nil ?_
      refine run_want rfl ?_
      intro A hA
      go_simp
      refine (isr_any m B S2 s2 x.n _ HP3.out.b hx0).mono ?_
      rintro e w4 ⟨rfl, rfl⟩
      refine hA _ _ ((by first | exact Kept.refl _ _ | exact ⟨rfl, rfl, rfl, Nat.le_refl _, fun _ _ _ => rfl⟩)) ?_
      try simp only [Act.put, List.setIfInBounds_toArray, List.set_cons_zero, List.set_cons_succ]
      clear A hA
      refine run_stage rfl ?_
      simp only [pickAt]
      repeat (go_big_quiet_step (fail))
      refine wpQuiet_nil ?_
      refine run_want rfl ?_
      intro A hA
      go_simp
      refine (mark_any B B V2 s2 _ HP3.out.a).mono ?_
      rintro e w4 ⟨rfl, rfl⟩
      refine hA _ _ ((by first | exact Kept.refl _ _ | exact ⟨rfl, rfl, rfl, Nat.le_refl _, fun _ _ _ => rfl⟩)) ?_
      try simp only [Act.put, List.setIfInBounds_toArray, List.set_cons_zero, List.set_cons_succ]
      clear A hA
      refine run_stage rfl ?_
      simp only [pickAt]
      repeat (go_big_quiet_step (fail))
      refine wpQuiet_nil ?_
      refine run_want rfl ?_
      intro A hA
      go_simp
      refine (len_any B B V2 s2 _ HP3.out.a).mono ?_
      rintro e w4 ⟨rfl, rfl⟩
      refine hA _ _ ((by first | exact Kept.refl _ _ | exact ⟨rfl, rfl, rfl, Nat.le_refl _, fun _ _ _ => rfl⟩)) ?_
      try simp only [Act.put, List.setIfInBounds_toArray, List.set_cons_zero, List.set_cons_succ]
      clear A hA
      refine run_last ?_
      simp only [pickAt]
      repeat (go_big_quiet_step (fail))
      refine wpQuiet_nil ?_
      go_wp2_with fail
      go_roundw
      case rel => exact ⟨k + 1, V2, S2, s2, by go_num, by omega, HP3.out, HO2.out, B3.out⟩
      case measure => simp [intOf]; omega
    · go_wp2_with fail
      go_loopw [13] (fun i wq => ∃ (j : Nat), i = .int .i64 j ∧ j ≤ r.length ∧ Pw B m V S s s wq ∧ Below B w wq) (fun i _ => r.length - (intOf i).toNat)
      case atStart => exact ⟨0, rfl, Nat.zero_le _, HP.out, HBk.out⟩
      case round =>
        obtain ⟨j, rfl, hj, hp, hb⟩ := hrel
        have HPj := Lib.hid hp
        have Bj := Lib.hid hb
        have sj := hb.size
        rw [HBQ.out] at sj
        clear hp
        by_cases hjl : j < r.length
        · obtain ⟨b, o, rfl, c0⟩ := (HR'.out.below (by rw [HBQ.out]; exact hb)).at j hjl
          have hbB : b < B := by
            obtain ⟨_, _, _, he, _, _, hb2, _⟩ := HR'.out.some (by omega) (by decide)
            cases he; rw [← HBQ.out]; exact hb2
          have hbl := Nat.lt_of_lt_of_le hbB sj
          have hy0 := HG'.out r[j] (List.getElem_mem hjl)
          generalize r[j] = y at *
          clear hb
          go_wp2_with fail
          refine wp_run (M := (fun _ => False)) (stages [([true, true, true, true, true, false, true, true, true, true, true, false, false], 5), ([false, false, false, false, false, false, false, false, false, false, false, false, false], 11)] [false, false, false, false, false, false, false, false, false, false, false, false, true]) (by kernel_rfl) (by kernel_rfl) ?_
          refine run_stage rfl ?_
          simp only [pickAt]
          repeat (go_big_quiet_step (fail))
          refine wpQuiet_nil ?_
          refine run_want rfl ?_
          intro A hA
          go_simp
          refine (is_any B B V s y _ HPj.out.drew.a HO.out).mono ?_
          rintro e w3 ⟨rfl, q3, rfl⟩
          have HP3 := Lib.hid (HPj.out.kept (Kept.dn _ _ (1 + q3)))
          have B3 := Lib.hid (below_dn (n := 1 + q3) Bj.out)
          refine hA _ _ ((Kept.dn _ _ _)) ?_
          try simp only [Act.put, List.setIfInBounds_toArray, List.set_cons_zero, List.set_cons_succ]
          clear A hA
          refine run_stage rfl ?_
          simp only [pickAt]
          repeat (go_big_quiet_step (fail))
          refine wpQuiet_nil ?_
          refine run_want rfl ?_
          intro A hA
          go_simp
          refine (isr_any m B S s y _ HP3.out.b hy0).mono ?_
          rintro e w4 ⟨rfl, rfl⟩
          refine hA _ _ ((by first | exact Kept.refl _ _ | exact ⟨rfl, rfl, rfl, Nat.le_refl _, fun _ _ _ => rfl⟩)) ?_
          try simp only [Act.put, List.setIfInBounds_toArray, List.set_cons_zero, List.set_cons_succ]
          clear A hA
          refine run_last ?_
          simp only [pickAt]
          repeat (go_big_quiet_step (fail))
          refine wpQuiet_nil ?_
          go_wp2_with fail
          go_roundw
          case rel => exact ⟨j + 1, by go_num, by omega, HP3.out, B3.out⟩
          case measure => simp [intOf]; omega
        · go_wp2_with fail
          go_wp2_with fail
          refine (awake_any _).mono ?_
          rintro e w3 ⟨rfl, hb3⟩
          go_wp2_with fail
          go_ret
          refine ⟨rfl, ?_⟩
          rw [HBQ.out]
          exact Bj.out.trans (hb3.mono sj)
set_option maxRecDepth 100000 in
theorem plays_any (most : Int) (l : List Ws) (r : List Int) (v u : Value) (w : World) (h : Rd w 2 v l.length (l.flatMap Ws.row)) (h' : Rd w 1 u r.length (r.map (Value.int .u64))) (hg : ∀ x ∈ l, 0 ≤ x.n) (hg' : ∀ x ∈ r, 0 ≤ x) : Calls Try.prog 5 #[.int .i64 most, v, u] w (TrueBelow w) := by
  by_cases hl : l.length ≤ 100 ∧ r.length ≤ 30
  · obtain ⟨hl, hr⟩ := hl
    by_cases hm : 1 ≤ most ∧ most ≤ 100000
    · exact plays_in most l r v u w h h' hl hr hg hg' hm.1 hm.2
    · obtain ⟨v, cp, rfl, h1, h2⟩ := h.form
      obtain ⟨u, cq, rfl, h3, h4⟩ := h'.form
      have HN := Lib.hid hm
      have hc : decide (1 ≤ most) = false ∨ (decide (1 ≤ most) = true ∧ decide (most ≤ 100000) = false) := by rcases Int.lt_or_le most 1 with h | h; exact .inl (by simp; omega); exact .inr ⟨by simp; omega, by simp; omega⟩
      clear h h' hm hg hg'
      rcases hc with hc | ⟨hc, hc2⟩
      all_goals
        go_enter Try.func5, Try.ntmps5
        go_wp2_with fail
        refine (new_no most _ HN.out).mono ?_
        rintro e w1 ⟨rfl, rfl⟩
        go_wp2_with fail
        refine (awake_any _).mono ?_
        rintro e w2 ⟨rfl, hb⟩
        go_wp2_with fail
        go_ret
        exact ⟨rfl, hb⟩
  · have hc2 : 100 < l.length ∨ (l.length ≤ 100 ∧ 30 < r.length) := by omega
    obtain ⟨v, cp, rfl, h1, h2⟩ := h.form
    obtain ⟨u, cq, rfl, h3, h4⟩ := h'.form
    clear h h' hg hg' hl
    rcases hc2 with h | ⟨h, h5⟩
    all_goals
      go_enter Try.func5, Try.ntmps5
      go_wp2_with fail
      refine (awake_any _).mono ?_
      rintro e w2 ⟨rfl, hb⟩
      go_wp2_with fail
      go_ret
      exact ⟨rfl, hb⟩
end Go.Proofs.Ytcdllhbifdgfaaa
