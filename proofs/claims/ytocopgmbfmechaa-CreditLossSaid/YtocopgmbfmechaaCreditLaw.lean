/- The laws CreditPlays and CreditLimits (chapter 19), walked. -/
import Derived.Test.YtocopgmbfmechaaCredit
import Derived.Test.YtocopgmbfmechaaStruct
namespace Go.Proofs.Ytocopgmbfmechaa
open Go.ChangeShapes Go.WideShapes Go.ChangeAt Go.RowKit Go.Joins Go.Deep

structure St where
  sent : Int
  lost : Int
def St.row (s : St) : List Value := [.int .i64 s.sent, .int .i64 s.lost]
def St.good (s : St) : Prop := (-9223372036854775808 ≤ s.sent ∧ s.sent ≤ 9223372036854775807) ∧ (-9223372036854775808 ≤ s.lost ∧ s.lost ≤ 9223372036854775807)
theorem open_steps {H : Type} {enc : TypeId × Value → H} {W : World} {r : Reach} {b0 : Nat} {v : Value} {d : DataW H} {p : List MemPlace}
    (hv : Value.okWide Try.prog W r b0 22 v) (h : DataW.Trod enc Try.prog W 0 (fun _ => true) true 22 v d p) : ∃ l : List St, Rd W 2 v l.length (l.flatMap St.row) ∧ ∀ x ∈ l, x.good := by
  refine open_rowsR St.row St.good 2 (fun _ => rfl) Try.underlying22 Try.underlying34 (by kernel_rfl) (by kernel_rfl) rfl hv (fun u hf => ?_) h
  obtain ⟨y0, m0, t0⟩ := hf 0 _ rfl
  obtain ⟨x0, e0, _, w0⟩ := DataW.trod_int Try.underlying3 t0
  replace e0 := (List.cons.inj e0).1
  obtain ⟨y1, m1, t1⟩ := hf 1 _ rfl
  obtain ⟨x1, e1, _, w1⟩ := DataW.trod_int Try.underlying3 t1
  replace e1 := (List.cons.inj e1).1
  refine ⟨⟨x0, x1⟩, ⟨wf_i64 w0, wf_i64 w1⟩, fun j hj => ?_⟩
  match j, hj with
  | 0, _ => rw [e0]; rfl
  | 1, _ => rw [e1]; rfl
  | j + 2, hj => omega

theorem of_in (n : Int) (w : World) (h0 : 0 ≤ n) (h : n ≤ 17179869184) : Calls Try.prog 18 #[.int .i64 n] w fun e w' => e = .returned (.int .i64 (n * 65536)) ∧ w = w' := by
  have e : ofI n = n * 65536 := by unfold ofI clampI; rw [if_neg (by omega), if_neg (by omega)]
  rw [← e]; exact of_any n w
def Cr0 (m g : Int) : Cr := ⟨m * 65536, g, m * 65536 / 16, 32768, 0⟩
def crOk (m g : Int) : Prop := 1 ≤ m ∧ m ≤ 1048576 ∧ 0 ≤ g ∧ g ≤ 65536
theorem cr0_ok {m g : Int} (h : crOk m g) : (Cr0 m g).ok 0 := by
  obtain ⟨h1, h2, h3, h4⟩ := h
  exact ⟨by show 65536 ≤ m * 65536; omega, by show m * 65536 ≤ 68719476736; omega, h3, h4, by show m * 65536 / 64 ≤ m * 65536 / 16; omega, by show m * 65536 / 16 ≤ m * 65536; omega, by show (1024 : Int) ≤ 32768; omega, by show (32768 : Int) ≤ 32768; omega, by show (0 : Int) ≤ 0; omega, by show (0 : Int) ≤ 0; omega⟩
def CrNew (m g : Int) (w : World) (e : Ending) (w' : World) : Prop := e = .returned (.tuple #[.pointer (some ⟨w.heap.size, 0, none⟩), .int .i64 0]) ∧ CrI w.heap.size (Cr0 m g) w' ∧ Below w.heap.size w w'
def CrNewM (m g : Int) (w : World) (e : Ending) (w' : World) : Prop := e = .returned (.tuple #[.pointer (some ⟨w.heap.size, 0, none⟩), .int .i64 0]) ∧ CrM w.heap.size (Cr0 m g) w' ∧ Below w.heap.size w w'
theorem cnew_yes (m g : Int) (w : World) (h : crOk m g) : Calls Try.prog 7 #[.int .i64 m, .int .i64 g] w (CrNew m g w) := by
  obtain ⟨h1, h2, h3, h4⟩ := h
  go_enter Try.func7, Try.ntmps7
  go_wp2_with fail
  refine (of_in _ _ (by omega) (by omega)).mono ?_
  rintro e w2 ⟨rfl, rfl⟩
  go_wp2_with fail
  go_ret2
  exact ⟨rfl, Ob.new _ _ _, (Below.refl _ _).alloc (Nat.le_refl _) _⟩
theorem cnew_no (m g : Int) (w : World) (h : ¬ crOk m g) : Calls Try.prog 7 #[.int .i64 m, .int .i64 g] w fun e w' => e = .returned (.tuple #[.pointer none, .int .i64 1]) ∧ w = w' := by
  have hc : m < 1 ∨ (1 ≤ m ∧ 1048576 < m) ∨ (1 ≤ m ∧ m ≤ 1048576 ∧ g < 0) ∨ (1 ≤ m ∧ m ≤ 1048576 ∧ 0 ≤ g ∧ 65536 < g) := by unfold crOk at h; omega
  clear h
  rcases hc with h | ⟨h, h2⟩ | ⟨h, h2, h3⟩ | ⟨h, h2, h3, h4⟩
  all_goals
    go_enter Try.func7, Try.ntmps7
    go_wp2_with fail
    all_goals (go_ret2; exact ⟨rfl, rfl⟩)
theorem cnewR_yes (m g : Int) (w : World) (h : crOk m g) : Calls Try.prog 8 #[.int .i64 m, .int .i64 g] w (CrNewM m g w) := by
  obtain ⟨h1, h2, h3, h4⟩ := h
  go_enter Try.func8, Try.ntmps8
  go_wp2_with fail
  go_ret2
  exact ⟨rfl, Ob.new _ _ _, (Below.refl _ _).alloc (Nat.le_refl _) _⟩
theorem cnewR_no (m g : Int) (w : World) (h : ¬ crOk m g) : Calls Try.prog 8 #[.int .i64 m, .int .i64 g] w fun e w' => e = .returned (.tuple #[.pointer none, .int .i64 1]) ∧ w = w' := by
  have hc : m < 1 ∨ (1 ≤ m ∧ 1048576 < m) ∨ (1 ≤ m ∧ m ≤ 1048576 ∧ g < 0) ∨ (1 ≤ m ∧ m ≤ 1048576 ∧ 0 ≤ g ∧ 65536 < g) := by unfold crOk at h; omega
  clear h
  rcases hc with h | ⟨h, h2⟩ | ⟨h, h2, h3⟩ | ⟨h, h2, h3, h4⟩
  all_goals
    go_enter Try.func8, Try.ntmps8
    go_wp2_with fail
    all_goals (go_ret2; exact ⟨rfl, rfl⟩)
theorem rate_any (b : Nat) (s : Cr) (w : World) (h : CrI b s w) : Calls Try.prog 11 #[.pointer (some ⟨b, 0, none⟩)] w fun e w' => e = .returned (.int .i64 s.r) ∧ w = w' := by
  obtain ⟨lb, c0, c1, c2, c3, c4, fb⟩ := h.at
  clear h
  go_enter Try.func11, Try.ntmps11
  go_wp2_with fail
  go_ret
  exact ⟨rfl, rfl⟩
theorem aggr_any (b : Nat) (s : Cr) (w : World) (h : CrI b s w) : Calls Try.prog 12 #[.pointer (some ⟨b, 0, none⟩)] w fun e w' => e = .returned (.int .i64 s.a) ∧ w = w' := by
  obtain ⟨lb, c0, c1, c2, c3, c4, fb⟩ := h.at
  clear h
  go_enter Try.func12, Try.ntmps12
  go_wp2_with fail
  go_ret
  exact ⟨rfl, rfl⟩
theorem rises_any (b : Nat) (s : Cr) (w : World) (h : CrI b s w) : Calls Try.prog 13 #[.pointer (some ⟨b, 0, none⟩)] w fun e w' => e = .returned (.int .i64 s.n) ∧ w = w' := by
  obtain ⟨lb, c0, c1, c2, c3, c4, fb⟩ := h.at
  clear h
  go_enter Try.func13, Try.ntmps13
  go_wp2_with fail
  go_ret
  exact ⟨rfl, rfl⟩
theorem closed1 : crOk 64 0 ∧ ¬ crOk 0 0 ∧ (Cr0 64 0).r = 262144 ∧ ((Cr0 64 0).up 10 0).r = 2228224 ∧ ((Cr0 64 0).up 10 0).n = 1 := by
  refine ⟨by unfold crOk; omega, by unfold crOk; omega, by decide +kernel, by decide +kernel, by decide +kernel⟩
set_option maxHeartbeats 1000000 in
theorem awake_any (w : World) : Calls Try.prog 6 #[] w (TrueBelow w) := by
  have q1 := Lib.hid closed1
  have k0 := Lib.hid (cr0_ok closed1.1)
  have HH := Lib.hid (hold_id 262144 (by decide) (by decide))
  go_enter Try.func6, Try.ntmps6
  go_wp2_with fail
  refine (cnew_yes 64 0 _ q1.out.1).mono ?_
  rintro e w1 ⟨rfl, hb, hk1⟩
  go_wp2_with fail
  refine (cnew_no 0 0 _ q1.out.2.1).mono ?_
  rintro e w2 ⟨rfl, rfl⟩
  have HB := Lib.hid hb
  have K1 := Lib.hid hk1
  clear hb hk1
  go_wp2_with fail
  refine (rate_any _ _ _ HB.out).mono ?_
  rw [q1.out.2.2.1]
  rintro e w2 ⟨rfl, rfl⟩
  go_wp2_with fail
  refine (up_any _ _ 0 10 0 _ HB.out k0.out (by decide)).mono ?_
  rintro e w3 ⟨rfl, hb3, hk3⟩
  have HB3 := Lib.hid hb3
  have K3 := Lib.hid hk3
  clear hb3 hk3
  go_wp2_with fail
  refine (of_in 4 _ (by decide) (by decide)).mono ?_
  rintro e w4 ⟨rfl, rfl⟩
  go_wp2_with fail
  refine (rate_any _ _ _ HB3.out).mono ?_
  rw [q1.out.2.2.2.1]
  rintro e w4 ⟨rfl, rfl⟩
  go_wp2_with fail
  refine (rises_any _ _ _ HB3.out).mono ?_
  rw [q1.out.2.2.2.2]
  rintro e w4 ⟨rfl, rfl⟩
  go_wp2_with fail
  refine (int_any _ _).mono ?_
  rw [HH.out]
  rintro e w4 ⟨rfl, rfl⟩
  go_wp2_with fail
  go_ret
  exact ⟨rfl, K1.out.trans (K3.out.belowAt K1.out.size (fun x hx => by have : x = w.heap.size := hx; omega))⟩
def Two (b m : Nat) : Nat → Prop := fun x => x = b ∨ x = m
theorem two1 {b m : Nat} {w w' : World} (h : Kept (Only b) w w') : Kept (Two b m) w w' := h.mono fun _ _ hx => .inl hx
theorem two2 {b m : Nat} {w w' : World} (h : Kept (Only m) w w') : Kept (Two b m) w w' := h.mono fun _ _ hx => .inr hx
theorem rowSt (s : St) : s.row.length = 2 := rfl

set_option maxRecDepth 100000 in
set_option maxHeartbeats 4000000 in
theorem plays_in (m g : Int) (l : List St) (v : Value) (w : World) (h : Rd w 2 v l.length (l.flatMap St.row)) (hl : l.length ≤ 100) (hok : crOk m g) : Calls Try.prog 3 #[.int .i64 m, .int .i64 g, v] w (TrueBelow w) := by
  obtain ⟨v, cp, rfl, h1, h2⟩ := h.form
  have HR := Lib.hid h
  have HK := Lib.hid hok
  clear h hok
  go_enter Try.func3, Try.ntmps3
  go_wp2_with fail
  refine (cnew_yes m g _ HK.out).mono ?_
  rintro e w1 ⟨rfl, hb, hk1⟩
  go_wp2_with fail
  refine (cnewR_yes m g _ HK.out).mono ?_
  rintro e w2 ⟨rfl, hm, hk2⟩
  have s1 := hk1.size
  have s2 := hk2.size
  have hlt := hb.lt
  have HB0 := Lib.hid (hb.below hk2)
  have HM0 := Lib.hid hm
  have B2 := Lib.hid (hk1.trans (hk2.mono hk1.size))
  have HR2 := Lib.hid (HR.out.below B2.out)
  clear hb hm hk1 hk2
  go_wp2_with fail
  have hm2 := heap_lt HM0.out
  generalize hB : w.heap.size = B at *
  generalize w1.heap.size = M at *
  have HBQ := Lib.hid hB
  clear hB
  go_loopw [11] (fun i wr => ∃ (k : Nat) (s : Cr), i = .int .i64 k ∧ k ≤ l.length ∧ CrI B s wr ∧ CrM M s wr ∧ s.ok k ∧ Kept (Two B M) w2 wr) (fun i _ => l.length - (intOf i).toNat)
  case atStart => exact ⟨0, _, rfl, by omega, HB0.out, HM0.out, cr0_ok HK.out, Kept.refl _ _⟩
  case round =>
    obtain ⟨k, s, rfl, hk, hb, hm, hs, hkp⟩ := hrel
    have HB := Lib.hid hb
    have HM := Lib.hid hm
    have HS := Lib.hid hs
    have HKP := Lib.hid hkp
    have sr := hkp.size
    clear hb hm hs hkp
    by_cases hlt : k < l.length
    · obtain ⟨b, o, rfl, hbs, _⟩ := HR.out.row rowSt (by decide) k hlt
      rw [HBQ.out] at hbs
      have hbn : ¬ Two B M b := fun hh => by rcases hh with hh | hh <;> omega
      have hR3 := HR2.out.kept HKP.out (fun a _ _ e hh => by cases e; exact hbn hh)
      obtain ⟨b', o', hv, hbr, hc⟩ := hR3.row rowSt (by decide) k hlt
      cases hv
      generalize l[k] = x at hc
      obtain ⟨sent, lost⟩ := x
      have c0 := hc 0 _ rfl
      have c1 := hc 1 _ rfl
      rw [Nat.add_zero] at c0
      clear hc hR3
      go_wp2_with fail
      refine wp_stands (M := (Two B M)) (by kernel_rfl) ?_
      refine st_quiet [true, true, true, true, true, true, true, true, true, true, true, false, true, true, true, true, true, true, true, true, true, true, true, false, false, false, false, false, false, false, false, false, false, false, false, false, false, false, false, false, false, false, false, false, false, false, false, false, false, false, false, false] (by kernel_rfl) ?_
      simp only [pickAt]
      repeat (go_big_quiet_step (fail))
      refine wpQuiet_nil ?_
      refine st_act 11 rfl (by kernel_rfl) ?_
      refine run_want rfl ?_
      intro A hA
      go_simp
      refine (up_any _ _ _ _ _ _ HB.out.drew HS.out (by omega)).mono ?_
      rintro e w3 ⟨rfl, hb3, hk3⟩
      have HB3 := Lib.hid hb3
      have HM3 := Lib.hid (HM.out.drew.kept hk3 (fun hh => by have : M = B := hh; omega))
      have HK3 := Lib.hid (HKP.out.trans (two1 (Kept.drew _ _ |>.trans hk3)))
      refine hA _ _ (two1 hk3) ?_
      try simp only [Act.put, List.setIfInBounds_toArray, List.set_cons_zero, List.set_cons_succ]
      clear A hA
      clear hb3 hk3
      refine st_quiet [false, false, false, false, false, false, false, false, false, false, false, false, false, false, false, false, false, false, false, false, false, false, false, false, false, false, false, false, false, false, false, false, false, false, false, false, false, false, false, false, false, false, false, false, false, false, false, false, false, false, false, false] (by kernel_rfl) ?_
      simp only [pickAt]
      repeat (go_big_quiet_step (fail))
      refine wpQuiet_nil ?_
      refine st_act 23 rfl (by kernel_rfl) ?_
      refine run_want rfl ?_
      intro A hA
      go_simp
      refine (up_ref _ _ _ _ _ _ HM3.out HS.out (by omega)).mono ?_
      rintro e w4 ⟨rfl, hm4, hk4⟩
      have HM4 := Lib.hid hm4
      have HB4 := Lib.hid (HB3.out.kept hk4 (fun hh => by have : B = M := hh; omega))
      have HK4 := Lib.hid (HK3.out.trans (two2 hk4))
      refine hA _ _ (two2 hk4) ?_
      try simp only [Act.put, List.setIfInBounds_toArray, List.set_cons_zero, List.set_cons_succ]
      clear A hA
      obtain ⟨lm, m0, m1, m2, m3, m4, m5, fm⟩ := hm4.at
      clear hm4 hk4
      have hF : ∀ x, ¬ (fun _ : Nat => False) x := fun _ h => h
      refine st_less (M' := fun _ => False) (fun _ h => h.elim) ?_
      refine st_quiet [false, false, false, false, false, false, false, false, false, false, false, false, false, false, false, false, false, false, false, false, false, false, false, false, true, true, true, false, true, true, true, true, false, false, false, false, false, false, false, false, false, false, false, false, false, false, false, false, false, false, false, false] (by kernel_rfl) ?_
      simp only [pickAt]
      repeat (go_big_quiet_step (fail))
      refine wpQuiet_nil ?_
      refine st_act 27 rfl (by kernel_rfl) ?_
      refine run_want rfl ?_
      intro A hA
      go_simp
      refine (rate_any _ _ _ HB4.out).mono ?_
      rintro e w5 ⟨rfl, rfl⟩
      refine hA _ _ (Kept.refl _ _) ?_
      try simp only [Act.put, List.setIfInBounds_toArray, List.set_cons_zero, List.set_cons_succ]
      clear A hA
      refine st_quiet [false, false, false, false, false, false, false, false, false, false, false, false, false, false, false, false, false, false, false, false, false, false, false, false, false, false, false, false, false, false, false, false, true, true, true, true, false, true, true, true, true, false, false, false, false, false, false, false, false, false, false, false] (by kernel_rfl) ?_
      simp only [pickAt]
      repeat (go_big_quiet_step (fail))
      refine wpQuiet_nil ?_
      refine st_act 36 rfl (by kernel_rfl) ?_
      refine run_want rfl ?_
      intro A hA
      go_simp
      refine (aggr_any _ _ _ HB4.out).mono ?_
      rintro e w5 ⟨rfl, rfl⟩
      refine hA _ _ (Kept.refl _ _) ?_
      try simp only [Act.put, List.setIfInBounds_toArray, List.set_cons_zero, List.set_cons_succ]
      clear A hA
      refine st_quiet [false, false, false, false, false, false, false, false, false, false, false, false, false, false, false, false, false, false, false, false, false, false, false, false, false, false, false, false, false, false, false, false, false, false, false, false, false, false, false, false, false, true, true, true, true, false, true, true, true, true, false, false] (by kernel_rfl) ?_
      simp only [pickAt]
      repeat (go_big_quiet_step (fail))
      refine wpQuiet_nil ?_
      refine st_act 45 rfl (by kernel_rfl) ?_
      refine run_want rfl ?_
      intro A hA
      go_simp
      refine (rises_any _ _ _ HB4.out).mono ?_
      rintro e w5 ⟨rfl, rfl⟩
      refine hA _ _ (Kept.refl _ _) ?_
      try simp only [Act.put, List.setIfInBounds_toArray, List.set_cons_zero, List.set_cons_succ]
      clear A hA
      refine st_quiet [false, false, false, false, false, false, false, false, false, false, false, false, false, false, false, false, false, false, false, false, false, false, false, false, false, false, false, false, false, false, false, false, false, false, false, false, false, false, false, false, false, false, false, false, false, false, false, false, false, false, true, true] (by kernel_rfl) ?_
      simp only [pickAt]
      repeat (go_big_quiet_step (fail))
      refine wpQuiet_nil ?_
      refine st_done (by kernel_rfl) ?_
      go_wp2_with fail
      go_roundw
      case rel => exact ⟨k + 1, _, by go_num, by omega, HB4.out, HM4.out, by have := up_ok HS.out sent lost; simpa using this, HK4.out⟩
      case measure => simp [intOf]; omega
    · go_wp2_with fail
      refine (awake_any _).mono ?_
      rintro e w3 ⟨rfl, hb3⟩
      go_wp2_with fail
      go_ret
      refine ⟨rfl, ?_⟩
      rw [HBQ.out]
      exact (B2.out.trans (HKP.out.belowAt (by omega) (fun x hx => by rcases hx with rfl | rfl <;> omega))).trans (hb3.mono (by omega))
theorem plays_any (m g : Int) (l : List St) (v : Value) (w : World) (h : Rd w 2 v l.length (l.flatMap St.row)) : Calls Try.prog 3 #[.int .i64 m, .int .i64 g, v] w (TrueBelow w) := by
  by_cases hl : l.length ≤ 100
  · by_cases hok : crOk m g
    · exact plays_in m g l v w h hl hok
    · obtain ⟨v, cp, rfl, h1, h2⟩ := h.form
      have HN := Lib.hid hok
      clear h hok
      go_enter Try.func3, Try.ntmps3
      go_wp2_with fail
      refine (cnew_no m g _ HN.out).mono ?_
      rintro e w1 ⟨rfl, rfl⟩
      go_wp2_with fail
      refine (cnewR_no m g _ HN.out).mono ?_
      rintro e w2 ⟨rfl, rfl⟩
      go_wp2_with fail
      refine (awake_any _).mono ?_
      rintro e w2 ⟨rfl, hb⟩
      go_wp2_with fail
      go_ret
      exact ⟨rfl, hb⟩
  · obtain ⟨v, cp, rfl, h1, h2⟩ := h.form
    clear h
    go_enter Try.func3, Try.ntmps3
    go_wp2_with fail
    refine (awake_any _).mono ?_
    rintro e w2 ⟨rfl, hb⟩
    go_wp2_with fail
    go_ret
    exact ⟨rfl, hb⟩

end Go.Proofs.Ytocopgmbfmechaa
