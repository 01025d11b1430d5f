/- The laws of bucket (chapter 3), walked. -/
import Derived.Test.YtjcopbfonbbaiaaPacer
import Derived.Test.YtjcopbfonbbaiaaStruct
namespace Go.Proofs.Ytjcopbfonbbaiaa
open Go.ChangeShapes Go.WideShapes Go.ChangeAt Go.RowKit Go.Joins Go.Deep

structure St where
  kind : Int
  now : Int
  n : Int
def St.row (s : St) : List Value := [.int .i64 s.kind, .int .i64 s.now, .int .i64 s.n]
def St.good (s : St) : Prop := (-9223372036854775808 ≤ s.kind ∧ s.kind ≤ 9223372036854775807) ∧ (-9223372036854775808 ≤ s.now ∧ s.now ≤ 9223372036854775807) ∧ (-9223372036854775808 ≤ s.n ∧ s.n ≤ 9223372036854775807)
theorem open_steps {H : Type} {enc : TypeId × Value → H} {W : World} {r : Reach} {b0 : Nat} {v : Value} {d : DataW H} {p : List MemPlace}
    (hv : Value.okWide Try.prog W r b0 42 v) (h : DataW.Trod enc Try.prog W 0 (fun _ => true) true 42 v d p) : ∃ l : List St, Rd W 3 v l.length (l.flatMap St.row) ∧ ∀ x ∈ l, x.good := by
  refine open_rowsR St.row St.good 3 (fun _ => rfl) Try.underlying42 Try.underlying47 (by kernel_rfl) (by kernel_rfl) rfl hv (fun u hf => ?_) h
  obtain ⟨y0, m0, t0⟩ := hf 0 _ rfl
  obtain ⟨x0, e0, _, w0⟩ := DataW.trod_int Try.underlying3 t0
  replace e0 := (List.cons.inj e0).1
  obtain ⟨y1, m1, t1⟩ := hf 1 _ rfl
  obtain ⟨x1, e1, _, w1⟩ := DataW.trod_int Try.underlying3 t1
  replace e1 := (List.cons.inj e1).1
  obtain ⟨y2, m2, t2⟩ := hf 2 _ rfl
  obtain ⟨x2, e2, _, w2⟩ := DataW.trod_int Try.underlying3 t2
  replace e2 := (List.cons.inj e2).1
  refine ⟨⟨x0, x1, x2⟩, ⟨wf_i64 w0, wf_i64 w1, wf_i64 w2⟩, fun j hj => ?_⟩
  match j, hj with
  | 0, _ => rw [e0]; rfl
  | 1, _ => rw [e1]; rfl
  | 2, _ => rw [e2]; rfl
  | j + 3, hj => omega

theorem closed1 : newOk 65536 2 ∧ (full 65536 2).can 0 2 = true ∧ ((full 65536 2).take 0 2).can 0 1 = false ∧ (((full 65536 2).take 0 2).take 0 1).can 1 1 = true := by
  refine ⟨by unfold newOk; omega, by decide +kernel, by decide +kernel, by decide +kernel⟩
def p0 : Pc := ⟨3, 0, 0, false⟩
theorem closed2 : p0.due 0 = true ∧ (p0.go 0).due 2 = false ∧ ((p0.go 0).go 2).nx = 3 := by decide +kernel
theorem p0_ok : p0.ok := ⟨by decide, by decide, by decide, by decide, by decide, by decide⟩
set_option maxHeartbeats 1000000 in
theorem awake_any (w : World) : Calls Try.prog 6 #[] w (TrueBelow w) := by
  have k0 := Lib.hid (full_ok closed1.1)
  have k1 := Lib.hid (Bk.take_ok k0.out 0 2)
  have k2 := Lib.hid (Bk.take_ok k1.out 0 1)
  have q1 := Lib.hid closed1
  have q2 := Lib.hid closed2
  have j1 := Lib.hid (Pc.go_ok p0_ok 0)
  have j2 := Lib.hid (Pc.go_ok j1.out 2)
  go_enter Try.func6, Try.ntmps6
  go_wp2_with fail
  refine (of_in 1 _ (by omega) (by omega)).mono ?_
  rintro e w' ⟨rfl, rfl⟩
  go_wp2_with fail
  refine (new_yes 65536 2 _ q1.out.1).mono ?_
  rintro e w1 ⟨rfl, hb, hk1⟩
  go_wp2_with fail
  refine (pnew_yes 3 _ (by omega)).mono ?_
  rintro e w2 ⟨rfl, hp, hk2⟩
  have HB := Lib.hid (hb.below hk2)
  have HP := Lib.hid hp
  have B2 := Lib.hid (hk1.trans (hk2.mono hk1.size))
  have hlt := hb.lt
  have s1 := hk1.size
  have s2 := hk2.size
  clear hb hp hk1 hk2
  go_wp2_with fail
  refine (take_any _ _ 0 2 _ HB.out k0.out).mono ?_
  rw [q1.out.2.1]
  rintro e w3 ⟨rfl, hb3, hk3⟩
  have HB3 := Lib.hid hb3
  have K3 := Lib.hid hk3
  clear hb3 hk3
  go_wp2_with fail
  refine (take_any _ _ 0 1 _ HB3.out k1.out).mono ?_
  rw [q1.out.2.2.1]
  rintro e w4 ⟨rfl, hb4, hk4⟩
  have HB4 := Lib.hid hb4
  have K4 := Lib.hid (K3.out.trans hk4)
  clear hb4 hk4
  go_wp2_with fail
  refine (take_any _ _ 1 1 _ HB4.out k2.out).mono ?_
  rw [q1.out.2.2.2]
  rintro e w5 ⟨rfl, hb5, hk5⟩
  have K5 := Lib.hid (K4.out.trans hk5)
  have HP5 := Lib.hid (HP.out.kept K5.out (fun hh => by have : w1.heap.size = w.heap.size := hh; omega))
  clear hb5 hk5
  go_wp2_with fail
  refine (pgo_any _ _ 0 _ HP5.out p0_ok).mono ?_
  rw [show Pc.due ⟨3, 0, 0, false⟩ 0 = true from q2.out.1]
  rintro e w6 ⟨rfl, hb6, hk6⟩
  have HP6 := Lib.hid hb6
  have K6 := Lib.hid hk6
  clear hb6 hk6
  go_wp2_with fail
  refine (pgo_any _ _ 2 _ HP6.out j1.out).mono ?_
  rw [show Pc.due (Pc.go ⟨3, 0, 0, false⟩ 0) 2 = false from q2.out.2.1]
  rintro e w7 ⟨rfl, hb7, hk7⟩
  have HP7 := Lib.hid hb7
  have K7 := Lib.hid (K6.out.trans hk7)
  clear hb7 hk7
  go_wp2_with fail
  refine (pnext_any _ _ _ HP7.out).mono ?_
  rw [show Pc.nx (Pc.go (Pc.go ⟨3, 0, 0, false⟩ 0) 2) = 3 from q2.out.2.2]
  rintro e w8 ⟨rfl, hb8, hk8⟩
  have K8 := Lib.hid (K7.out.trans hk8)
  clear hb8 hk8
  go_wp2_with fail
  go_ret
  exact ⟨rfl, (B2.out.trans (K5.out.belowAt (by omega) (fun x hx => by have : x = w.heap.size := hx; omega))).trans (K8.out.belowAt (by have := K5.out.size; omega) (fun x hx => by have : x = w1.heap.size := hx; omega))⟩
theorem rowSt (s : St) : s.row.length = 3 := rfl
def Two (b m : Nat) : Nat → Prop := fun x => x = b ∨ x = m
theorem two1 {b m : Nat} {w w' : World} (h : Kept (Only b) w w') : Kept (Two b m) w w' := h.mono fun _ _ hx => .inl hx
theorem two2 {b m : Nat} {w w' : World} (h : Kept (Only m) w w') : Kept (Two b m) w w' := h.mono fun _ _ hx => .inr hx

set_option maxRecDepth 100000 in
set_option maxHeartbeats 4000000 in
theorem plays_in (r d : Int) (l : List St) (v : Value) (w : World) (h : Rd w 3 v l.length (l.flatMap St.row)) (hl : l.length ≤ 100) (hok : newOk r d) : Calls Try.prog 5 #[.int .i64 r, .int .i64 d, v] w (TrueBelow w) := by
  obtain ⟨v, cp, rfl, h1, h2⟩ := h.form
  have HR := Lib.hid h
  have HK := Lib.hid hok
  clear h hok
  go_enter Try.func5, Try.ntmps5
  go_wp2_with fail
  refine (new_yes r d _ HK.out).mono ?_
  rintro e w1 ⟨rfl, hb, hk1⟩
  go_wp2_with fail
  refine (newB_yes r d _ HK.out).mono ?_
  rintro e w2 ⟨rfl, hm, hk2⟩
  have s1 := hk1.size
  have s2 := hk2.size
  have hlt := hb.lt
  have HB0 := Lib.hid (hb.below hk2)
  have HM0 := Lib.hid hm
  have B2 := Lib.hid (hk1.trans (hk2.mono hk1.size))
  have HR2 := Lib.hid (HR.out.below B2.out)
  clear hb hm hk1 hk2
  go_wp2_with fail
  have hm2 := heap_lt HM0.out
  generalize hB : w.heap.size = B at *
  generalize w1.heap.size = M at *
  have HBQ := Lib.hid hB
  clear hB
  go_loopw [11] (fun i wr => ∃ (k : Nat) (s : Bk), i = .int .i64 k ∧ k ≤ l.length ∧ BkI B s wr ∧ BkM M s wr ∧ s.ok ∧ Kept (Two B M) w2 wr) (fun i _ => l.length - (intOf i).toNat)
  case atStart => exact ⟨0, _, rfl, by omega, HB0.out, HM0.out, full_ok HK.out, Kept.refl _ _⟩
  case round =>
    obtain ⟨k, s, rfl, hk, hb, hm, hs, hkp⟩ := hrel
    have HB := Lib.hid hb
    have HM := Lib.hid hm
    have HS := Lib.hid hs
    have HKP := Lib.hid hkp
    have sr := hkp.size
    clear hb hm hs hkp
    by_cases hlt : k < l.length
    · obtain ⟨b, o, rfl, hbs, _⟩ := HR.out.row rowSt (by decide) k hlt
      rw [HBQ.out] at hbs
      have hR3 := HR2.out.kept HKP.out (fun a _ _ e hh => by cases e; rcases hh with hh | hh <;> (simp only at hh; omega))
      obtain ⟨b', o', hv, hbr, hc⟩ := hR3.row rowSt (by decide) k hlt
      cases hv
      generalize l[k] = x at hc
      obtain ⟨kd, now, n⟩ := x
      have c0 := hc 0 _ rfl
      have c1 := hc 1 _ rfl
      have c2 := hc 2 _ rfl
      rw [Nat.add_zero] at c0
      clear hc hR3
      have hX := Ob.new wr #[.int .i64 kd, .int .i64 now, .int .i64 n] 47
      have hBW := HB.out.alloc (.cells #[.int .i64 kd, .int .i64 now, .int .i64 n] 47)
      have hMW := HM.out.alloc (.cells #[.int .i64 kd, .int .i64 now, .int .i64 n] 47)
      have hKW := HKP.out.alloc (.cells #[.int .i64 kd, .int .i64 now, .int .i64 n] 47)
      have HXW := Lib.hid hX
      have HBW := Lib.hid hBW
      have HMW := Lib.hid hMW
      have HKW := Lib.hid hKW
      clear hX hBW hMW hKW
      by_cases k1 : kd = 1
      · subst k1
        go_wp2_with fail
        generalize wr.alloc (.cells #[.int .i64 1, .int .i64 now, .int .i64 n] 47) = W at *
        have hXn : ¬ Two B M wr.heap.size := fun hh => by rcases hh with hh | hh <;> omega
        generalize wr.heap.size = X at *
        obtain ⟨lx, cx, _⟩ := HXW.out.blk
        refine wp_run (M := (Two B M)) (stages [([true, true, true, true, true, false, true, true, true, true, true, false, false], 5), ([false, false, false, false, false, false, false, false, false, false, false, false, false], 11)] [false, false, false, false, false, false, false, false, false, false, false, false, true]) (by kernel_rfl) (by kernel_rfl) ?_
        refine run_stage rfl ?_
        simp only [pickAt]
        repeat (go_big_quiet_step (fail))
        refine wpQuiet_nil ?_
        refine run_want rfl ?_
        intro A hA
        go_simp
        refine (take_any _ _ _ _ _ HBW.out.drew HS.out).mono ?_
        rintro e w3 ⟨rfl, hb3, hk3⟩
        have HB3 := Lib.hid hb3
        have HM3 := Lib.hid (HMW.out.drew.kept hk3 (fun hh => by have : M = B := hh; omega))
        have HX3 := Lib.hid (HXW.out.drew.kept hk3 (fun hh => hXn (.inl hh)))
        have HK3 := Lib.hid (HKW.out.trans (two1 (Kept.drew _ _ |>.trans hk3)))
        refine hA _ _ (two1 hk3) ?_
        clear A hA
        clear hb3 hk3 lx cx
        refine run_stage rfl ?_
        simp only [pickAt]
        repeat (go_big_quiet_step (fail))
        refine wpQuiet_nil ?_
        refine run_want rfl ?_
        intro A hA
        go_simp
        refine (take_ref _ _ _ _ _ HM3.out HS.out).mono ?_
        rintro e w4 ⟨rfl, hm4, hk4⟩
        have HM4 := Lib.hid hm4
        have HB4 := Lib.hid (HB3.out.kept hk4 (fun hh => by have : B = M := hh; omega))
        have HX4 := Lib.hid (HX3.out.kept hk4 (fun hh => hXn (.inr hh)))
        have HK4 := Lib.hid (HK3.out.trans (two2 hk4))
        refine hA _ _ (two2 hk4) ?_
        clear A hA
        clear hm4 hk4
        refine run_last ?_
        simp only [pickAt]
        repeat (go_big_quiet_step (fail))
        refine wpQuiet_nil ?_
        obtain ⟨lx, cx, _⟩ := HX4.out.blk
        have HSI := Lib.hid (Bk.take_ok HS.out now n)
        go_wp2_with fail
        refine wp_run (M := (Two B M)) (stages [([true, true, true, false, true, true, true, false, false], 3), ([false, false, false, false, false, false, false, false, false], 7)] [false, false, false, false, false, false, false, false, true]) (by kernel_rfl) (by kernel_rfl) ?_
        refine run_stage rfl ?_
        simp only [pickAt]
        repeat (go_big_quiet_step (fail))
        refine wpQuiet_nil ?_
        refine run_want rfl ?_
        intro A hA
        go_simp
        refine (has_any _ _ _ _ (HB4.out.drew) HSI.out).mono ?_
        rintro e w5 ⟨rfl, hb5, hk5⟩
        have HB5 := Lib.hid hb5
        have HM5 := Lib.hid (HM4.out.drew.kept hk5 (fun hh => by have : M = B := hh; omega))
        have HK5 := Lib.hid (HK4.out.trans (two1 (Kept.drew _ _ |>.trans hk5)))
        refine hA _ _ (two1 hk5) ?_
        clear A hA
        clear hb5 hk5
        refine run_stage rfl ?_
        simp only [pickAt]
        repeat (go_big_quiet_step (fail))
        refine wpQuiet_nil ?_
        refine run_want rfl ?_
        intro A hA
        go_simp
        refine (has_ref _ _ _ _ HM5.out HSI.out).mono ?_
        rintro e w6 ⟨rfl, hm6, hk6⟩
        have HM6 := Lib.hid hm6
        have HB6 := Lib.hid (HB5.out.kept hk6 (fun hh => by have : B = M := hh; omega))
        have HK6 := Lib.hid (HK5.out.trans (two2 hk6))
        refine hA _ _ (two2 hk6) ?_
        clear A hA
        clear hm6 hk6
        refine run_last ?_
        simp only [pickAt]
        repeat (go_big_quiet_step (fail))
        refine wpQuiet_nil ?_
        go_wp2_with fail
        go_roundw
        case rel => exact ⟨k + 1, _, by go_num, by omega, HB6.out, HM6.out, Bk.on_ok HSI.out _, HK6.out⟩
        case measure => simp [intOf]; omega
      by_cases k2 : kd = 2
      · subst k2
        go_wp2_with fail
        generalize wr.alloc (.cells #[.int .i64 2, .int .i64 now, .int .i64 n] 47) = W at *
        have hXn : ¬ Two B M wr.heap.size := fun hh => by rcases hh with hh | hh <;> omega
        generalize wr.heap.size = X at *
        obtain ⟨lx, cx, _⟩ := HXW.out.blk
        refine wp_run (M := (Two B M)) (stages [([true, true, true, true, true, false, true, true, true, true, true, false, false], 5), ([false, false, false, false, false, false, false, false, false, false, false, false, false], 11)] [false, false, false, false, false, false, false, false, false, false, false, false, true]) (by kernel_rfl) (by kernel_rfl) ?_
        refine run_stage rfl ?_
        simp only [pickAt]
        repeat (go_big_quiet_step (fail))
        refine wpQuiet_nil ?_
        refine run_want rfl ?_
        intro A hA
        go_simp
        refine (when_any _ _ _ _ _ HBW.out.drew HS.out).mono ?_
        rintro e w3 ⟨rfl, hb3, hk3⟩
        have HB3 := Lib.hid hb3
        have HM3 := Lib.hid (HMW.out.drew.kept hk3 (fun hh => by have : M = B := hh; omega))
        have HX3 := Lib.hid (HXW.out.drew.kept hk3 (fun hh => hXn (.inl hh)))
        have HK3 := Lib.hid (HKW.out.trans (two1 (Kept.drew _ _ |>.trans hk3)))
        refine hA _ _ (two1 hk3) ?_
        clear A hA
        clear hb3 hk3 lx cx
        refine run_stage rfl ?_
        simp only [pickAt]
        repeat (go_big_quiet_step (fail))
        refine wpQuiet_nil ?_
        refine run_want rfl ?_
        intro A hA
        go_simp
        refine (when_ref _ _ _ _ _ HM3.out HS.out).mono ?_
        rintro e w4 ⟨rfl, hm4, hk4⟩
        have HM4 := Lib.hid hm4
        have HB4 := Lib.hid (HB3.out.kept hk4 (fun hh => by have : B = M := hh; omega))
        have HX4 := Lib.hid (HX3.out.kept hk4 (fun hh => hXn (.inr hh)))
        have HK4 := Lib.hid (HK3.out.trans (two2 hk4))
        refine hA _ _ (two2 hk4) ?_
        clear A hA
        clear hm4 hk4
        refine run_last ?_
        simp only [pickAt]
        repeat (go_big_quiet_step (fail))
        refine wpQuiet_nil ?_
        obtain ⟨lx, cx, _⟩ := HX4.out.blk
        have HSI := Lib.hid (Bk.on_ok HS.out now)
        go_wp2_with fail
        refine wp_run (M := (Two B M)) (stages [([true, true, true, false, true, true, true, false, false], 3), ([false, false, false, false, false, false, false, false, false], 7)] [false, false, false, false, false, false, false, false, true]) (by kernel_rfl) (by kernel_rfl) ?_
        refine run_stage rfl ?_
        simp only [pickAt]
        repeat (go_big_quiet_step (fail))
        refine wpQuiet_nil ?_
        refine run_want rfl ?_
        intro A hA
        go_simp
        refine (has_any _ _ _ _ (HB4.out.drew) HSI.out).mono ?_
        rintro e w5 ⟨rfl, hb5, hk5⟩
        have HB5 := Lib.hid hb5
        have HM5 := Lib.hid (HM4.out.drew.kept hk5 (fun hh => by have : M = B := hh; omega))
        have HK5 := Lib.hid (HK4.out.trans (two1 (Kept.drew _ _ |>.trans hk5)))
        refine hA _ _ (two1 hk5) ?_
        clear A hA
        clear hb5 hk5
        refine run_stage rfl ?_
        simp only [pickAt]
        repeat (go_big_quiet_step (fail))
        refine wpQuiet_nil ?_
        refine run_want rfl ?_
        intro A hA
        go_simp
        refine (has_ref _ _ _ _ HM5.out HSI.out).mono ?_
        rintro e w6 ⟨rfl, hm6, hk6⟩
        have HM6 := Lib.hid hm6
        have HB6 := Lib.hid (HB5.out.kept hk6 (fun hh => by have : B = M := hh; omega))
        have HK6 := Lib.hid (HK5.out.trans (two2 hk6))
        refine hA _ _ (two2 hk6) ?_
        clear A hA
        clear hm6 hk6
        refine run_last ?_
        simp only [pickAt]
        repeat (go_big_quiet_step (fail))
        refine wpQuiet_nil ?_
        go_wp2_with fail
        go_roundw
        case rel => exact ⟨k + 1, _, by go_num, by omega, HB6.out, HM6.out, Bk.on_ok HSI.out _, HK6.out⟩
        case measure => simp [intOf]; omega
      by_cases k4 : kd = 4
      · subst k4
        go_wp2_with fail
        generalize wr.alloc (.cells #[.int .i64 4, .int .i64 now, .int .i64 n] 47) = W at *
        have hXn : ¬ Two B M wr.heap.size := fun hh => by rcases hh with hh | hh <;> omega
        generalize wr.heap.size = X at *
        obtain ⟨lx, cx, _⟩ := HXW.out.blk
        refine (setRate_any _ _ _ _ _ HBW.out HS.out).mono ?_
        rintro e w3 ⟨rfl, hb3, hk3⟩
        have HB3 := Lib.hid hb3
        have HM3 := Lib.hid (HMW.out.kept hk3 (fun hh => by have : M = B := hh; omega))
        have HX3 := Lib.hid (HXW.out.kept hk3 (fun hh => hXn (.inl hh)))
        have HK3 := Lib.hid (HKW.out.trans (two1 hk3))
        clear hb3 hk3 lx cx
        obtain ⟨lx, cx, _⟩ := HX3.out.blk
        go_wp2_with fail
        refine (setRate_ref _ _ _ _ _ HM3.out HS.out).mono ?_
        rintro e w4 ⟨rfl, hm4, hk4⟩
        have HM4 := Lib.hid hm4
        have HB4 := Lib.hid (HB3.out.kept hk4 (fun hh => by have : B = M := hh; omega))
        have HX4 := Lib.hid (HX3.out.kept hk4 (fun hh => hXn (.inr hh)))
        have HK4 := Lib.hid (HK3.out.trans (two2 hk4))
        clear hm4 hk4
        obtain ⟨lx, cx, _⟩ := HX4.out.blk
        have HSI := Lib.hid (Bk.rate_ok (Bk.on_ok HS.out now) n)
        go_wp2_with fail
        refine wp_run (M := (Two B M)) (stages [([true, true, true, false, true, true, true, false, false], 3), ([false, false, false, false, false, false, false, false, false], 7)] [false, false, false, false, false, false, false, false, true]) (by kernel_rfl) (by kernel_rfl) ?_
        refine run_stage rfl ?_
        simp only [pickAt]
        repeat (go_big_quiet_step (fail))
        refine wpQuiet_nil ?_
        refine run_want rfl ?_
        intro A hA
        go_simp
        refine (has_any _ _ _ _ (HB4.out.drew) HSI.out).mono ?_
        rintro e w5 ⟨rfl, hb5, hk5⟩
        have HB5 := Lib.hid hb5
        have HM5 := Lib.hid (HM4.out.drew.kept hk5 (fun hh => by have : M = B := hh; omega))
        have HK5 := Lib.hid (HK4.out.trans (two1 (Kept.drew _ _ |>.trans hk5)))
        refine hA _ _ (two1 hk5) ?_
        clear A hA
        clear hb5 hk5
        refine run_stage rfl ?_
        simp only [pickAt]
        repeat (go_big_quiet_step (fail))
        refine wpQuiet_nil ?_
        refine run_want rfl ?_
        intro A hA
        go_simp
        refine (has_ref _ _ _ _ HM5.out HSI.out).mono ?_
        rintro e w6 ⟨rfl, hm6, hk6⟩
        have HM6 := Lib.hid hm6
        have HB6 := Lib.hid (HB5.out.kept hk6 (fun hh => by have : B = M := hh; omega))
        have HK6 := Lib.hid (HK5.out.trans (two2 hk6))
        refine hA _ _ (two2 hk6) ?_
        clear A hA
        clear hm6 hk6
        refine run_last ?_
        simp only [pickAt]
        repeat (go_big_quiet_step (fail))
        refine wpQuiet_nil ?_
        go_wp2_with fail
        go_roundw
        case rel => exact ⟨k + 1, _, by go_num, by omega, HB6.out, HM6.out, Bk.on_ok HSI.out _, HK6.out⟩
        case measure => simp [intOf]; omega
      have b1 : (kd == 1) = false := by simpa using k1
      have b2 : (kd == 2) = false := by simpa using k2
      have b4 : (kd == 4) = false := by simpa using k4
      go_wp2_with fail
      generalize wr.alloc (.cells #[.int .i64 kd, .int .i64 now, .int .i64 n] 47) = W at *
      have hXn : ¬ Two B M wr.heap.size := fun hh => by rcases hh with hh | hh <;> omega
      generalize wr.heap.size = X at *
      obtain ⟨lx, cx, _⟩ := HXW.out.blk
      refine wp_run (M := (Two B M)) (stages [([true, true, true, false, true, true, true, false, false], 3), ([false, false, false, false, false, false, false, false, false], 7)] [false, false, false, false, false, false, false, false, true]) (by kernel_rfl) (by kernel_rfl) ?_
      refine run_stage rfl ?_
      simp only [pickAt]
      repeat (go_big_quiet_step (fail))
      refine wpQuiet_nil ?_
      refine run_want rfl ?_
      intro A hA
      go_simp
      refine (has_any _ _ _ _ (HBW.out.drew) HS.out).mono ?_
      rintro e w5 ⟨rfl, hb5, hk5⟩
      have HB5 := Lib.hid hb5
      have HM5 := Lib.hid (HMW.out.drew.kept hk5 (fun hh => by have : M = B := hh; omega))
      have HK5 := Lib.hid (HKW.out.trans (two1 (Kept.drew _ _ |>.trans hk5)))
      refine hA _ _ (two1 hk5) ?_
      clear A hA
      clear hb5 hk5
      refine run_stage rfl ?_
      simp only [pickAt]
      repeat (go_big_quiet_step (fail))
      refine wpQuiet_nil ?_
      refine run_want rfl ?_
      intro A hA
      go_simp
      refine (has_ref _ _ _ _ HM5.out HS.out).mono ?_
      rintro e w6 ⟨rfl, hm6, hk6⟩
      have HM6 := Lib.hid hm6
      have HB6 := Lib.hid (HB5.out.kept hk6 (fun hh => by have : B = M := hh; omega))
      have HK6 := Lib.hid (HK5.out.trans (two2 hk6))
      refine hA _ _ (two2 hk6) ?_
      clear A hA
      clear hm6 hk6
      refine run_last ?_
      simp only [pickAt]
      repeat (go_big_quiet_step (fail))
      refine wpQuiet_nil ?_
      go_wp2_with fail
      go_roundw
      case rel => exact ⟨k + 1, _, by go_num, by omega, HB6.out, HM6.out, Bk.on_ok HS.out _, HK6.out⟩
      case measure => simp [intOf]; omega
    · go_wp2_with fail
      refine (awake_any _).mono ?_
      rintro e w3 ⟨rfl, hb3⟩
      go_wp2_with fail
      go_ret
      refine ⟨rfl, ?_⟩
      rw [HBQ.out]
      exact (B2.out.trans (HKP.out.belowAt (by omega) (fun x hx => by rcases hx with rfl | rfl <;> omega))).trans (hb3.mono (by omega))
theorem plays_any (r d : Int) (l : List St) (v : Value) (w : World) (h : Rd w 3 v l.length (l.flatMap St.row)) : Calls Try.prog 5 #[.int .i64 r, .int .i64 d, v] w (TrueBelow w) := by
  by_cases hl : l.length ≤ 100
  · by_cases hok : newOk r d
    · exact plays_in r d l v w h hl hok
    · obtain ⟨v, cp, rfl, h1, h2⟩ := h.form
      have HN := Lib.hid hok
      clear h hok
      go_enter Try.func5, Try.ntmps5
      go_wp2_with fail
      refine (new_no r d _ HN.out).mono ?_
      rintro e w1 ⟨rfl, rfl⟩
      go_wp2_with fail
      refine (newB_no r d _ HN.out).mono ?_
      rintro e w2 ⟨rfl, rfl⟩
      go_wp2_with fail
      refine (awake_any _).mono ?_
      rintro e w2 ⟨rfl, hb⟩
      go_wp2_with fail
      go_ret
      exact ⟨rfl, hb⟩
  · obtain ⟨v, cp, rfl, h1, h2⟩ := h.form
    clear h
    go_enter Try.func5, Try.ntmps5
    go_wp2_with fail
    refine (awake_any _).mono ?_
    rintro e w2 ⟨rfl, hb⟩
    go_wp2_with fail
    go_ret
    exact ⟨rfl, hb⟩
end Go.Proofs.Ytjcopbfonbbaiaa
