/- The law CreditLimits (chapter 19), walked. -/
import Derived.Test.YtocopgmbfmechaaCreditLaw
namespace Go.Proofs.Ytocopgmbfmechaa
open Go.RowKit

/-! ### without loss the rate comes near the most -/
def Bq : Nat → Int
  | 0 => 68719476736
  | j + 1 => (3 * Bq j + 8) / 4
structure Cv (m : Int) (k : Nat) (s : Cr) : Prop where
  em : s.m = m
  n : (k : Int) ≤ s.n
  a : 2 ≤ k → 16384 ≤ s.a
  d : m - s.r ≤ Bq (k - 2)
theorem up10 (s : Cr) (hg : 0 ≤ s.g) : s.up 1 0 = s.fit (addI (timesI s.aggr s.m) (timesI (65536 - s.aggr) s.r)) s.aggr (s.n + 1) := by
  unfold Cr.up
  rw [if_neg (show ¬ sentI 1 = 0 by decide), if_pos (show lossI 1 0 ≤ s.g from (show lossI 1 0 = 0 by decide) ▸ hg)]
theorem up_m (s : Cr) (x y : Int) : (s.up x y).m = s.m := by
  unfold Cr.up
  split
  · rfl
  · split <;> rfl
theorem cv_num {m r a : Int} (h1 : 65536 ≤ m) (h2 : m ≤ 68719476736) (h3 : 0 ≤ r) (h4 : r ≤ m) (h5 : 1024 ≤ a) (h6 : a ≤ 32768) :
    addI (timesI a m) (timesI (65536 - a) r) = a * m / 65536 + (65536 - a) * r / 65536 ∧ r - 1 ≤ a * m / 65536 + (65536 - a) * r / 65536 ∧ a * m / 65536 + (65536 - a) * r / 65536 ≤ m ∧ (16384 ≤ a → 4 * (m - (a * m / 65536 + (65536 - a) * r / 65536)) ≤ 3 * (m - r) + 8) := by
  obtain ⟨d, hd⟩ : ∃ d, m - r = d := ⟨_, rfl⟩
  have hm : m = r + d := by omega
  have q1 : 0 ≤ a * d := Int.mul_nonneg (by omega) (by omega)
  have q2 : a * d ≤ 32768 * d := Int.mul_le_mul_of_nonneg_right h6 (by omega)
  have q3 : 16384 ≤ a → 16384 * d ≤ a * d := fun h => Int.mul_le_mul_of_nonneg_right h (by omega)
  have q4 : 0 ≤ a * r := Int.mul_nonneg (by omega) h3
  have q5 : a * r ≤ 32768 * r := Int.mul_le_mul_of_nonneg_right h6 h3
  have e1 : a * m = a * r + a * d := by rw [hm, Int.mul_add]
  have e2 : (65536 - a) * r = 65536 * r - a * r := Int.sub_mul _ _ _
  have t1 : timesI a m = a * m / 65536 := by
    unfold timesI; rw [hold_id a (by omega) (by omega), hold_id m (by omega) (by omega), e1]; omega
  have t2 : timesI (65536 - a) r = (65536 - a) * r / 65536 := by
    unfold timesI; rw [hold_id (65536 - a) (by omega) (by omega), hold_id r (by omega) (by omega), e2]; omega
  have t3 : addI (timesI a m) (timesI (65536 - a) r) = a * m / 65536 + (65536 - a) * r / 65536 := by
    rw [t1, t2, e1, e2]; unfold addI
    rw [hold_id ((a * r + a * d) / 65536) (by omega) (by omega), hold_id ((65536 * r - a * r) / 65536) (by omega) (by omega), hold_id _ (by omega) (by omega)]
  refine ⟨t3, ?_, ?_, fun h => ?_⟩
  · rw [e1, e2]; omega
  · rw [e1, e2]; omega
  · rw [e1, e2]; have := q3 h; omega
theorem cv_step {m : Int} {k : Nat} {s : Cr} {K : Int} (h : Cv m k s) (hok : s.ok K) : Cv m (k + 1) (s.up 1 0) ∧ s.r - 2 ≤ (s.up 1 0).r := by
  obtain ⟨h1, h2, h3, h4, h5, h6, h7, h8, h9, h10⟩ := hok
  have ha := aggr_b ⟨h1, h2, h3, h4, h5, h6, h7, h8, h9, h10⟩
  obtain ⟨n1, n2, n3, n4⟩ := cv_num h1 h2 (by omega) h6 ha.1 ha.2
  rw [up10 s h3]
  have hr : (s.fit (addI (timesI s.aggr s.m) (timesI (65536 - s.aggr) s.r)) s.aggr (s.n + 1)).r = max (s.aggr * s.m / 65536 + (65536 - s.aggr) * s.r / 65536) (s.m / 64) := by
    show clampI _ _ _ = _
    rw [n1]
    generalize s.aggr * s.m / 65536 + (65536 - s.aggr) * s.r / 65536 = y at *
    unfold clampI
    split
    · omega
    · rw [if_neg (by omega)]; omega
  have har : (s.fit (addI (timesI s.aggr s.m) (timesI (65536 - s.aggr) s.r)) s.aggr (s.n + 1)).a = s.aggr := by
    show clampI s.aggr 1024 32768 = _
    unfold clampI; rw [if_neg (by omega), if_neg (by omega)]
  have hn := h.n
  have hd := h.d
  have hem := h.em
  generalize s.aggr * s.m / 65536 + (65536 - s.aggr) * s.r / 65536 = y at *
  refine ⟨⟨hem, ?_, fun hk => ?_, ?_⟩, ?_⟩
  · show ((k + 1 : Nat) : Int) ≤ s.n + 1
    omega
  · rw [har]
    unfold Cr.aggr
    rw [if_pos (by omega)]
    omega
  · rw [hr]
    rcases Nat.lt_or_ge k 2 with hk | hk
    · rw [show k + 1 - 2 = 0 by omega]
      show m - _ ≤ 68719476736
      omega
    · rw [show k + 1 - 2 = (k - 2) + 1 by omega]
      show m - _ ≤ (3 * Bq (k - 2) + 8) / 4
      have hag : 16384 ≤ s.aggr := by
        have := h.a hk
        unfold Cr.aggr; split <;> omega
      have := n4 hag
      omega
  · rw [hr]; omega
theorem bq98 : Bq 98 ≤ 1000 := by decide +kernel

set_option maxRecDepth 100000 in
set_option maxHeartbeats 4000000 in
theorem limits_in (m g : Int) (l : List St) (v : Value) (w : World) (h : Rd w 2 v l.length (l.flatMap St.row)) (hl : l.length ≤ 60) (m1 : 1 ≤ m) (m2 : m ≤ 1048576) (g1 : 0 ≤ g) (g2 : g ≤ 65536) : Calls Try.prog 4 #[.int .i64 m, .int .i64 g, v] w (TrueBelow w) := by
  obtain ⟨v, cp, rfl, h1, h2⟩ := h.form
  have HR := Lib.hid h
  have HK := Lib.hid (show crOk m g from ⟨m1, m2, g1, g2⟩)
  clear h
  go_enter Try.func4, Try.ntmps4
  go_wp2_with fail
  refine (cnew_yes m g _ HK.out).mono ?_
  rintro e w1 ⟨rfl, hb, hk1⟩
  have s1 := hk1.size
  have hlt := hb.lt
  have HB0 := Lib.hid hb
  have B1 := Lib.hid hk1
  have HR1 := Lib.hid (HR.out.below B1.out)
  clear hb hk1
  go_wp2_with fail
  generalize hB : w.heap.size = B at *
  have HBQ := Lib.hid hB
  clear hB
  go_loopw [10] (fun i wr => ∃ (k : Nat) (s : Cr), i = .int .i64 k ∧ k ≤ l.length ∧ CrI B s wr ∧ s.ok k ∧ s.m = m * 65536 ∧ Kept (Only B) w1 wr) (fun i _ => l.length - (intOf i).toNat)
  case atStart => exact ⟨0, _, rfl, by omega, HB0.out, cr0_ok HK.out, rfl, Kept.refl _ _⟩
  case round =>
    obtain ⟨k, s, rfl, hk, hb, hs, hem, hkp⟩ := hrel
    have HB := Lib.hid hb
    have HS := Lib.hid hs
    have HE := Lib.hid hem
    have HKP := Lib.hid hkp
    have sr := hkp.size
    clear hb hs hkp hem
    by_cases hlt : k < l.length
    · obtain ⟨b, o, rfl, hbs, _⟩ := HR.out.row rowSt (by decide) k hlt
      rw [HBQ.out] at hbs
      have hbn : ¬ Only B b := fun hh => by have : b = B := hh; omega
      have hR3 := HR1.out.kept HKP.out (fun a _ _ e hh => by cases e; exact hbn hh)
      obtain ⟨b', o', hv, hbr, hc⟩ := hR3.row rowSt (by decide) k hlt
      cases hv
      generalize l[k] = x at hc
      obtain ⟨sent, lost⟩ := x
      have c0 := hc 0 _ rfl
      have c1 := hc 1 _ rfl
      rw [Nat.add_zero] at c0
      clear hc hR3
      go_wp2_with fail
      refine wp_stands (M := (Only B)) (by kernel_rfl) ?_
      refine st_quiet [true, true, true, true, true, true, true, true, true, true, true, false] (by kernel_rfl) ?_
      simp only [pickAt]
      repeat (go_big_quiet_step (fail))
      refine wpQuiet_nil ?_
      refine st_act 11 rfl (by kernel_rfl) ?_
      refine run_want rfl ?_
      intro A hA
      go_simp
      refine (up_any _ _ _ _ _ _ HB.out.drew HS.out (by omega)).mono ?_
      rintro e w3 ⟨rfl, hb3, hk3⟩
      have HB3 := Lib.hid hb3
      have HS3 := Lib.hid (up_ok HS.out sent lost)
      have HE3 := Lib.hid (show (s.up sent lost).m = m * 65536 by rw [up_m]; exact HE.out)
      have HK3 := Lib.hid (HKP.out.trans ((Kept.drew _ _).trans hk3))
      refine hA _ _ (hk3) ?_
      try simp only [Act.put, List.setIfInBounds_toArray, List.set_cons_zero, List.set_cons_succ]
      clear A hA
      clear hb3 hk3
      refine st_done (by kernel_rfl) ?_
      have f1 := HS3.out.r0
      have f2 := HS3.out.r1
      have f3 := HS3.out.a0
      have f4 := HS3.out.a1
      rw [HE3.out] at f1 f2
      go_wp2_with fail
      refine (rate_any _ _ _ HB3.out).mono ?_
      rintro e w4 ⟨rfl, rfl⟩
      go_wp2_with fail
      refine (rate_any _ _ _ HB3.out).mono ?_
      rintro e w4 ⟨rfl, rfl⟩
      go_wp2_with fail
      refine (aggr_any _ _ _ HB3.out).mono ?_
      rintro e w4 ⟨rfl, rfl⟩
      go_wp2_with fail
      refine (aggr_any _ _ _ HB3.out).mono ?_
      rintro e w4 ⟨rfl, rfl⟩
      go_wp2_with fail
      go_roundw
      case rel => exact ⟨k + 1, _, by go_num, by omega, HB3.out, by have := HS3.out; simpa using this, HE3.out, HK3.out⟩
      case measure => simp [intOf]; omega
    · have hmb := HE.out
      go_wp2_with fail
      refine (rate_any _ _ _ HB.out).mono ?_
      rintro e w4 ⟨rfl, rfl⟩
      go_wp2_with fail
      clear hmb
      go_loopw [11, 12] (fun lv i wq => ∃ (j : Nat) (s' : Cr), lv = .int .i64 s'.r ∧ i = .int .i64 j ∧ j ≤ 100 ∧ CrI B s' wq ∧ s'.ok (k + j) ∧ Cv (m * 65536) j s' ∧ Kept (Only B) wr wq) (fun _ i _ => 100 - (intOf i).toNat)
      case atStart =>
        refine ⟨0, s, rfl, rfl, by omega, HB.out, by simpa using HS.out, ⟨HE.out, by simpa using HS.out.n0, fun h => by omega, ?_⟩, Kept.refl _ _⟩
        have f1 := HS.out.r0
        have f2 := HS.out.m1
        rw [HE.out] at f1 f2
        show m * 65536 - s.r ≤ 68719476736
        omega
      case round =>
        obtain ⟨j, s', rfl, rfl, hj, hb, hs, hcv, hkp2⟩ := hrel
        have HB' := Lib.hid hb
        have HS' := Lib.hid hs
        have HC := Lib.hid hcv
        have HKP2 := Lib.hid hkp2
        have sr2 := hkp2.size
        clear hb hs hcv hkp2
        by_cases hj2 : j < 100
        · obtain ⟨hc1, hc2⟩ := cv_step HC.out HS'.out
          have HC1 := Lib.hid hc1
          have f3 := hc1.n
          have f5 := HS'.out.r0
          have f6 := HS'.out.r1
          have f7 := HS'.out.m1
          have f8 := HS'.out.m0
          clear hc1
          go_wp2_with fail
          refine (up_any _ _ _ 1 0 _ HB'.out HS'.out (by omega)).mono ?_
          rintro e w3 ⟨rfl, hb3, hk3⟩
          have HB3 := Lib.hid hb3
          have HK3 := Lib.hid (HKP2.out.trans hk3)
          clear hb3 hk3
          go_wp2_with fail
          refine (rate_any _ _ _ HB3.out).mono ?_
          rintro e w4 ⟨rfl, rfl⟩
          go_wp2_with fail
          refine (rises_any _ _ _ HB3.out).mono ?_
          rintro e w4 ⟨rfl, rfl⟩
          go_wp2_with fail
          refine (rate_any _ _ _ HB3.out).mono ?_
          rintro e w4 ⟨rfl, rfl⟩
          go_wp2_with fail
          go_roundw
          case rel => exact ⟨j + 1, _, rfl, by go_num, by omega, HB3.out, by have := up_ok HS'.out 1 0; rw [show (k : Int) + ((j + 1 : Nat) : Int) = (k : Int) + (j : Int) + 1 by omega]; exact this, HC1.out, HK3.out⟩
          case measure => simp [intOf]; omega
        · have hd := HC.out.d
          rw [show j - 2 = 98 by omega] at hd
          have hb := bq98
          have f9 : m * 65536 / 2 ≤ s'.r := by omega
          clear hd hb
          go_wp2_with fail
          refine (awake_any _).mono ?_
          rintro e w3 ⟨rfl, hb3⟩
          go_wp2_with fail
          go_ret
          refine ⟨rfl, ?_⟩
          rw [HBQ.out]
          exact (B1.out.trans ((HKP.out.trans HKP2.out).belowAt (by omega) (fun x hx => by have : x = B := hx; omega))).trans (hb3.mono (by omega))
theorem limits_any (m g : Int) (l : List St) (v : Value) (w : World) (h : Rd w 2 v l.length (l.flatMap St.row)) : Calls Try.prog 4 #[.int .i64 m, .int .i64 g, v] w (TrueBelow w) := by
  by_cases hc : 1 ≤ m ∧ m ≤ 1048576 ∧ 0 ≤ g ∧ g ≤ 65536 ∧ l.length ≤ 60
  · exact limits_in m g l v w h hc.2.2.2.2 hc.1 hc.2.1 hc.2.2.1 hc.2.2.2.1
  · have hc2 : m < 1 ∨ (1 ≤ m ∧ 1048576 < m) ∨ (1 ≤ m ∧ m ≤ 1048576 ∧ g < 0) ∨ (1 ≤ m ∧ m ≤ 1048576 ∧ 0 ≤ g ∧ 65536 < g) ∨ (1 ≤ m ∧ m ≤ 1048576 ∧ 0 ≤ g ∧ g ≤ 65536 ∧ 60 < l.length) := by omega
    obtain ⟨v, cp, rfl, h1, h2⟩ := h.form
    clear h hc
    rcases hc2 with h | ⟨h, h3⟩ | ⟨h, h3, h4⟩ | ⟨h, h3, h4, h5⟩ | ⟨h, h3, h4, h5, h6⟩
    all_goals
      go_enter Try.func4, Try.ntmps4
      go_wp2_with fail
      refine (awake_any _).mono ?_
      rintro en w2 ⟨rfl, hb⟩
      go_wp2_with fail
      go_ret
      exact ⟨rfl, hb⟩
end Go.Proofs.Ytocopgmbfmechaa
