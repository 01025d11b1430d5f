/- The laws BucketPaces and BucketBound (chapter 3), walked. -/
import Derived.Test.YtjcopbfonbbaiaaBucketLaw
namespace Go.Proofs.Ytjcopbfonbbaiaa
open Go.RowKit

theorem pgo_nil (x : Int) (w : World) : Calls Try.prog 11 #[.pointer none, .int .i64 x] w fun e w' => e = .returned (.bool false) ∧ w = w' := by
  go_enter Try.func11, Try.ntmps11
  go_wp2_with fail
  go_ret
  exact ⟨rfl, rfl⟩
theorem pnext_nil (w : World) : Calls Try.prog 13 #[.pointer none] w fun e w' => e = .returned (.int .i64 1125899906842624) ∧ w = w' := by
  go_enter Try.func13, Try.ntmps13
  go_wp2_with fail
  go_ret
  exact ⟨rfl, rfl⟩
theorem take_nil (x y : Int) (w : World) : Calls Try.prog 8 #[.pointer none, .int .i64 x, .int .i64 y] w fun e w' => e = .returned (.bool false) ∧ w = w' := by
  go_enter Try.func8, Try.ntmps8
  go_wp2_with fail
  go_ret
  exact ⟨rfl, rfl⟩
theorem when_nil (x y : Int) (w : World) : Calls Try.prog 15 #[.pointer none, .int .i64 x, .int .i64 y] w fun e w' => e = .returned (.int .i64 1125899906842624) ∧ w = w' := by
  go_enter Try.func15, Try.ntmps15
  go_wp2_with fail
  go_ret
  exact ⟨rfl, rfl⟩
theorem has_nil (x : Int) (w : World) : Calls Try.prog 9 #[.pointer none, .int .i64 x] w fun e w' => e = .returned (.int .i64 0) ∧ w = w' := by
  go_enter Try.func9, Try.ntmps9
  go_wp2_with fail
  go_ret
  exact ⟨rfl, rfl⟩

theorem pc0_ok {e : Int} (h : 1 ≤ e ∧ e ≤ 1073741824) : (⟨e, 0, 0, false⟩ : Pc).ok := ⟨h.1, h.2, by show (0 : Int) ≤ 0; omega, by show (0 : Int) ≤ 1125899906842624; omega, by show (0 : Int) ≤ 0; omega, by show (0 : Int) ≤ 0; omega⟩
set_option maxRecDepth 100000 in
set_option maxHeartbeats 4000000 in
theorem paces_in (e : Int) (l : List Int) (v : Value) (w : World) (h : Rd w 1 v l.length (l.map (Value.int .i64))) (hl : l.length ≤ 100) (hok : 1 ≤ e ∧ e ≤ 1073741824) : Calls Try.prog 4 #[.int .i64 e, v] w (TrueBelow w) := by
  obtain ⟨v, cp, rfl, h1, h2⟩ := h.form
  have HR := Lib.hid h
  have HK := Lib.hid hok
  obtain ⟨e1, e2⟩ := hok
  clear h
  go_enter Try.func4, Try.ntmps4
  go_wp2_with fail
  refine (pnew_yes e _ HK.out).mono ?_
  rintro en w1 ⟨rfl, hb, hk1⟩
  have s1 := hk1.size
  have hlt := hb.lt
  have HB := Lib.hid hb
  have B1 := Lib.hid hk1
  clear hb hk1
  go_wp2_with fail
  have HB0 := Lib.hid (HB.out.alloc (.cells #[.int .i64 e, .int .i64 0, .int .i64 0, .bool false] 37))
  have HM0 := Lib.hid (Ob.new w1 #[.int .i64 e, .int .i64 0, .int .i64 0, .bool false] 37)
  have B2 := Lib.hid (B1.out.alloc s1 (.cells #[.int .i64 e, .int .i64 0, .int .i64 0, .bool false] 37))
  have HR2 := Lib.hid (HR.out.below B2.out)
  have s2 := B2.out.size
  have hm2 := HM0.out.lt
  generalize w1.alloc (.cells #[.int .i64 e, .int .i64 0, .int .i64 0, .bool false] 37) = w2 at *
  generalize hB : w.heap.size = B at *
  generalize w1.heap.size = M at *
  have HBQ := Lib.hid hB
  clear hB
  go_loopw [9] (fun i wr => ∃ (k : Nat) (s : Pc), i = .int .i64 k ∧ k ≤ l.length ∧ PcI B s wr ∧ PcM M s wr ∧ s.ok ∧ Kept (Two B M) w2 wr) (fun i _ => l.length - (intOf i).toNat)
  case atStart => exact ⟨0, _, rfl, by omega, HB0.out, HM0.out, pc0_ok HK.out, Kept.refl _ _⟩
  case round =>
    obtain ⟨k, s, rfl, hk, hb, hm, hs, hkp⟩ := hrel
    have HB := Lib.hid hb
    have HM := Lib.hid hm
    have HS := Lib.hid hs
    have HKP := Lib.hid hkp
    have sr := hkp.size
    clear hb hm hs hkp
    by_cases hlt : k < l.length
    · have hbs : ∀ b o, v = some ⟨b, o, none⟩ → b < B := by
        rintro b o rfl
        obtain ⟨b', o', c, he, _, _, hb', _⟩ := HR.out.some (by omega) (by decide)
        cases he
        rw [← HBQ.out]; exact hb'
      have hR3 := HR2.out.kept HKP.out (fun a _ _ e hh => by cases e; obtain ⟨b', o', hv, _⟩ := HR.out.at k hlt; cases hv; have := hbs _ _ rfl; rcases hh with hh | hh <;> (simp only at hh; omega))
      obtain ⟨b, o, rfl, c0⟩ := hR3.at k hlt
      have hbl := hbs _ _ rfl
      have hbn : ¬ Two B M b := fun hh => by rcases hh with hh | hh <;> omega
      have hbr : b < wr.heap.size := by omega
      clear hR3 hbs
      generalize l[k] = x at c0
      go_wp2_with fail
      refine wp_run (M := (Two B M)) (stages [([true, true, true, true, true, false, true, true, true, true, true, false, false, false, false, false, false, false, false, false], 5), ([false, false, false, false, false, false, false, false, false, false, false, false, false, false, false, false, false, false, false, false], 11), ([false, false, false, false, false, false, false, false, false, false, false, false, true, true, true, false, true, false, false, false], 15), ([false, false, false, false, false, false, false, false, false, false, false, false, false, false, false, false, false, false, false, false], 17)] [false, false, false, false, false, false, false, false, false, false, false, false, false, false, false, false, false, false, true, true]) (by kernel_rfl) (by kernel_rfl) ?_
      refine run_stage rfl ?_
      simp only [pickAt]
      repeat (go_big_quiet_step (fail))
      refine wpQuiet_nil ?_
      refine run_want rfl ?_
      intro A hA
      go_simp
      refine (pgo_any _ _ _ _ HB.out.drew HS.out).mono ?_
      rintro en w3 ⟨rfl, hb3, hk3⟩
      have HB3 := Lib.hid hb3
      have HM3 := Lib.hid (HM.out.drew.kept hk3 (fun hh => by have : M = B := hh; omega))
      have HK3 := Lib.hid (HKP.out.trans (two1 (Kept.drew _ _ |>.trans hk3)))
      refine hA _ _ (two1 hk3) ?_
      clear A hA
      clear hb3 hk3
      refine run_stage rfl ?_
      simp only [pickAt]
      repeat (go_big_quiet_step (fail))
      refine wpQuiet_nil ?_
      refine run_want rfl ?_
      intro A hA
      go_simp
      refine (pgo_ref _ _ _ _ HM3.out HS.out).mono ?_
      rintro en w4 ⟨rfl, hm4, hk4⟩
      have HM4 := Lib.hid hm4
      have HB4 := Lib.hid (HB3.out.kept hk4 (fun hh => by have : B = M := hh; omega))
      have HK4 := Lib.hid (HK3.out.trans (two2 hk4))
      refine hA _ _ (two2 hk4) ?_
      clear A hA
      clear hm4 hk4
      refine run_stage rfl ?_
      simp only [pickAt]
      repeat (go_big_quiet_step (fail))
      refine wpQuiet_nil ?_
      refine run_want rfl ?_
      intro A hA
      go_simp
      refine (pnext_any _ _ _ HB4.out).mono ?_
      rintro en w5 ⟨rfl, hb5, hk5⟩
      have HB5 := Lib.hid hb5
      have HM5 := Lib.hid (HM4.out.kept hk5 (fun hh => by have : M = B := hh; omega))
      have HK5 := Lib.hid (HK4.out.trans (two1 hk5))
      refine hA _ _ (two1 hk5) ?_
      clear A hA
      clear hb5 hk5
      refine run_stage rfl ?_
      simp only [pickAt]
      repeat (go_big_quiet_step (fail))
      refine wpQuiet_nil ?_
      refine run_want rfl ?_
      intro A hA
      go_simp
      refine (pnext_ref _ _ _ HM5.out (Pc.go_ok HS.out x)).mono ?_
      rintro en w6 ⟨rfl, hm6, hk6⟩
      have HM6 := Lib.hid hm6
      have HB6 := Lib.hid (HB5.out.kept hk6 (fun hh => by have : B = M := hh; omega))
      have HK6 := Lib.hid (HK5.out.trans (two2 hk6))
      refine hA _ _ (two2 hk6) ?_
      clear A hA
      clear hm6 hk6
      refine run_last ?_
      simp only [pickAt]
      repeat (go_big_quiet_step (fail))
      refine wpQuiet_nil ?_
      go_wp2_with fail
      go_roundw
      case rel => exact ⟨k + 1, _, by go_num, by omega, HB6.out, HM6.out, Pc.go_ok HS.out x, HK6.out⟩
      case measure => simp [intOf]; omega
    · go_wp2_with fail
      refine (pgo_nil _ _).mono ?_
      rintro en w3 ⟨rfl, rfl⟩
      go_wp2_with fail
      refine (pnext_nil _).mono ?_
      rintro en w3 ⟨rfl, rfl⟩
      go_wp2_with fail
      refine (take_nil _ _ _).mono ?_
      rintro en w3 ⟨rfl, rfl⟩
      go_wp2_with fail
      refine (when_nil _ _ _).mono ?_
      rintro en w3 ⟨rfl, rfl⟩
      go_wp2_with fail
      refine (has_nil _ _).mono ?_
      rintro en w3 ⟨rfl, rfl⟩
      go_wp2_with fail
      refine (awake_any _).mono ?_
      rintro en w3 ⟨rfl, hb3⟩
      go_wp2_with fail
      go_ret
      refine ⟨rfl, ?_⟩
      rw [HBQ.out]
      exact (B2.out.trans (HKP.out.belowAt (by omega) (fun x hx => by rcases hx with rfl | rfl <;> omega))).trans (hb3.mono (by omega))
theorem paces_any (e : Int) (l : List Int) (v : Value) (w : World) (h : Rd w 1 v l.length (l.map (Value.int .i64))) : Calls Try.prog 4 #[.int .i64 e, v] w (TrueBelow w) := by
  by_cases hl : l.length ≤ 100
  · by_cases hok : 1 ≤ e ∧ e ≤ 1073741824
    · exact paces_in e l v w h hl hok
    · obtain ⟨v, cp, rfl, h1, h2⟩ := h.form
      have HN := Lib.hid hok
      have hc : e < 1 ∨ (1 ≤ e ∧ decide (e ≤ 1073741824) = false) := by rcases Int.lt_or_le e 1 with h | h; exact .inl h; exact .inr ⟨h, by simp; omega⟩
      clear h hok
      rcases hc with hc | ⟨hc, hc2⟩
      all_goals
        go_enter Try.func4, Try.ntmps4
        go_wp2_with fail
        refine (pnew_no e _ HN.out).mono ?_
        rintro en w1 ⟨rfl, rfl⟩
        go_wp2_with fail
        refine (awake_any _).mono ?_
        rintro en w2 ⟨rfl, hb⟩
        go_wp2_with fail
        go_ret
        exact ⟨rfl, hb⟩
  · obtain ⟨v, cp, rfl, h1, h2⟩ := h.form
    clear h
    go_enter Try.func4, Try.ntmps4
    go_wp2_with fail
    refine (awake_any _).mono ?_
    rintro en w2 ⟨rfl, hb⟩
    go_wp2_with fail
    go_ret
    exact ⟨rfl, hb⟩

theorem Bk.on_id {s : Bk} (h : s.ok) (now : Int) (ht : tick s.t now = s.t) : s.on now = s := by
  have e2 : s.lev now = s.l := by
    unfold Bk.lev
    rw [ht, Int.sub_self]
    have e3 : mulI s.r 0 = 0 := by unfold mulI; rw [hold_id 0 (by decide) (by decide), Int.mul_zero]; rfl
    have := h.l0; have := h.l1; have := h.d1
    rw [e3]; unfold addI
    rw [hold_id s.l (by omega) (by omega), hold_id 0 (by decide) (by decide), Int.add_zero, hold_id s.l (by omega) (by omega)]
    omega
  show (⟨s.r, s.d, s.lev now, tick s.t now⟩ : Bk) = s
  rw [ht, e2]
theorem tick_at {t k : Int} (h : t ≤ k) (hk : k ≤ 1000) : tick t k = k := by unfold tick; omega
/-- no more is given than the depth, and the rate times the ticks -/
structure Bnd (r d : Int) (k : Int) (g : Int) (s : Bk) : Prop where
  ok : s.ok
  er : s.r = r
  ed : s.d = d
  et : s.t ≤ k
  g0 : 0 ≤ g
  hg : g * 65536 + s.l ≤ d * 65536 + r * s.t
theorem bnd_on {r d k g : Int} {s : Bk} (h : Bnd r d k g s) (hr : r ≤ 16777216) (hd : d ≤ 1048576) (hk : k ≤ 1000) : Bnd r d k g (s.on k) ∧ (s.on k).t = k := by
  have ht : (s.on k).t = k := tick_at h.et hk
  refine ⟨⟨Bk.on_ok h.ok k, h.er, h.ed, by omega, h.g0, ?_⟩, ht⟩
  have k0 := h.ok.t0
  have r0 := h.ok.r0
  have l0 := h.ok.l0
  have l1 := h.ok.l1
  have hg := h.hg
  have hrr := h.er
  have hdd := h.ed
  have htk := h.et
  have hl : (s.on k).l ≤ s.l + r * (k - s.t) := by
    show s.lev k ≤ _
    unfold Bk.lev
    rw [show tick s.t k = k from tick_at h.et hk, hrr]
    have q0 : 0 ≤ r * (k - s.t) := Int.mul_nonneg (by omega) (by omega)
    have q1 : mulI r (k - s.t) = r * (k - s.t) ∨ mulI r (k - s.t) ≤ r * (k - s.t) := by
      right; unfold mulI; rw [hold_id r (by omega) (by omega), hold_id (k - s.t) (by omega) (by omega)]; omega
    have q2 := mulI_b r (k - s.t)
    have q3 : addI s.l (mulI r (k - s.t)) ≤ s.l + mulI r (k - s.t) := by
      unfold addI; rw [hold_id s.l (by omega) (by omega), hold_id _ q2.1 q2.2]; unfold hold; omega
    omega
  rw [ht]
  have e : r * k = r * s.t + r * (k - s.t) := by rw [← Int.mul_add]; congr 1; omega
  omega
theorem bnd_take {r d k g n : Int} {s : Bk} (h : Bnd r d k g s) (hr : r ≤ 16777216) (hd : d ≤ 1048576) (hk : k ≤ 1000) (hn : 0 ≤ n) : Bnd r d k (if s.can k n = true then g + n else g) (s.take k n) ∧ (s.take k n).t = k := by
  obtain ⟨h1, h2⟩ := bnd_on h hr hd hk
  have hok := Bk.take_ok h.ok k n
  have hg := h1.hg
  have hg0 := h1.g0
  unfold Bk.take at hok ⊢
  by_cases hc : s.can k n = true
  · rw [if_pos hc] at hok ⊢
    rw [if_pos hc]
    exact ⟨⟨hok, h1.er, h1.ed, h1.et, by omega, by show (g + n) * 65536 + ((s.on k).l - n * 65536) ≤ d * 65536 + r * (s.on k).t; omega⟩, h2⟩
  · rw [if_neg hc] at hok ⊢
    rw [if_neg hc]
    exact ⟨h1, h2⟩
theorem bnd_le {r d k g : Int} {s : Bk} (h : Bnd r d k g s) (ht : s.t = k) : g ≤ d + r * k / 65536 := by
  have h1 := h.hg
  have h2 := h.ok.l0
  rw [ht] at h1
  omega
theorem bnd_g {r d k g : Int} {s : Bk} (h : Bnd r d k g s) (_ : 0 ≤ r) (hr : r ≤ 16777216) (hd : d ≤ 1048576) (hk : k ≤ 61) : 0 ≤ g ∧ g ≤ 2000000 := by
  have h1 := h.hg
  have h2 := h.ok.l0
  have h3 := h.ok.t0
  have h4 := h.et
  have h5 : r * s.t ≤ 16777216 * 61 := Int.mul_le_mul hr (by omega) h3 (by decide)
  exact ⟨h.g0, by omega⟩
theorem tmod_b (x : Int) : -1000 < x.tmod 1000 ∧ x.tmod 1000 < 1000 := by
  have h1 := Int.tmod_lt_of_pos x (b := 1000) (by decide)
  have h2 := Int.tmod_lt_of_pos (-x) (b := 1000) (by decide)
  rw [Int.neg_tmod] at h2
  omega
/-- at the same time the level is asked once more -/
theorem has_same {r d k g : Int} {s : Bk} (h : Bnd r d k g s) (ht : s.t = k) (hk : k ≤ 1000) (b : Nat) (w : World) (hb : BkI b s w) : Calls Try.prog 9 #[.pointer (some ⟨b, 0, none⟩), .int .i64 k] w (GoesPost b s (.int .i64 (s.l / 65536)) w) := by
  have := has_any b s k w hb h.ok
  rw [Bk.on_id h.ok k (by rw [tick_at h.et hk, ht])] at this
  exact this
set_option maxRecDepth 100000 in
set_option maxHeartbeats 4000000 in
theorem bound_in (r d : Int) (l : List Int) (v : Value) (w : World) (h : Rd w 1 v l.length (l.map (Value.int .i64))) (hl : l.length ≤ 60) (r0 : 0 ≤ r) (r1 : r ≤ 16777216) (d0 : 1 ≤ d) (d1 : d ≤ 1048576) : Calls Try.prog 3 #[.int .i64 r, .int .i64 d, v] w (TrueBelow w) := by
  obtain ⟨v, cp, rfl, h1, h2⟩ := h.form
  have HR := Lib.hid h
  have HK := Lib.hid (show newOk r d by unfold newOk; omega)
  clear h
  go_enter Try.func3, Try.ntmps3
  go_wp2_with fail
  refine (new_yes r d _ HK.out).mono ?_
  rintro e w1 ⟨rfl, hb, hk1⟩
  have s1 := hk1.size
  have HB0 := Lib.hid hb
  have hlt := hb.lt
  have B1 := Lib.hid hk1
  have HR1 := Lib.hid (HR.out.below B1.out)
  clear hb hk1
  go_wp2_with fail
  generalize hB : w.heap.size = B at *
  have HBQ := Lib.hid hB
  clear hB
  go_loopw [9, 10] (fun gv i wr => ∃ (k : Nat) (g : Int) (s : Bk), gv = .int .i64 g ∧ i = .int .i64 k ∧ k ≤ l.length ∧ BkI B s wr ∧ Bnd r d k g s ∧ Kept (Only B) w1 wr) (fun _ i _ => l.length - (intOf i).toNat)
  case atStart =>
    refine ⟨0, 0, _, rfl, rfl, by omega, HB0.out, ⟨full_ok HK.out, rfl, rfl, by show (0 : Int) ≤ 0; omega, by omega, ?_⟩, Kept.refl _ _⟩
    show 0 * 65536 + d * 65536 ≤ d * 65536 + r * 0
    omega
  case round =>
    obtain ⟨k, g, s, rfl, rfl, hk, hb, hs, hkp⟩ := hrel
    have HB := Lib.hid hb
    have HS := Lib.hid hs
    have HKP := Lib.hid hkp
    have sr := hkp.size
    clear hb hs hkp
    by_cases hlt : k < l.length
    · have hbs : ∀ b o, v = some ⟨b, o, none⟩ → b < B := by
        rintro b o rfl
        obtain ⟨b', o', c, he, _, _, hb', _⟩ := HR.out.some (by omega) (by decide)
        cases he
        rw [← HBQ.out]; exact hb'
      have hR3 := HR1.out.kept HKP.out (fun a _ _ e hh => by cases e; obtain ⟨b', o', hv, _⟩ := HR.out.at k hlt; cases hv; have := hbs _ _ rfl; have hh : b' = B := hh; omega)
      obtain ⟨b, o, rfl, c0⟩ := hR3.at k hlt
      have hbl := hbs _ _ rfl
      clear hR3 hbs
      generalize l[k] = x at c0
      obtain ⟨q1, q2⟩ := tmod_b x
      obtain ⟨g0, g1⟩ := bnd_g HS.out r0 r1 d1 (by omega)
      have p0 : 0 ≤ r * (k : Int) := Int.mul_nonneg r0 (by omega)
      have p1 : r * (k : Int) ≤ 16777216 * 60 := Int.mul_le_mul r1 (by omega) (by omega) (by decide)
      by_cases hn : 0 ≤ x.tmod 1000
      · have HT0 := bnd_take HS.out r1 d1 (by omega) hn
        by_cases hc : s.can k (x.tmod 1000) = true
        · rw [if_pos hc] at HT0
          have HT := Lib.hid HT0
          have HC := Lib.hid hc
          clear HT0 hc
          have H1 := Lib.hid (has_same HT.out.1 HT.out.2 (by omega))
          have t0 : 0 ≤ (s.take k (x.tmod 1000)).l / 65536 := by have := HT.out.1.ok.l0; omega
          have t1 : (s.take k (x.tmod 1000)).l / 65536 ≤ d := by have := HT.out.1.ok.l1; rw [HT.out.1.ed] at this; omega
          have t2 := bnd_le HT.out.1 HT.out.2
          obtain ⟨t3, t4⟩ := bnd_g HT.out.1 r0 r1 d1 (by omega)
          go_wp2_with fail
          refine (take_any _ _ _ _ _ HB.out HS.out.ok).mono ?_
          rw [HC.out]
          rintro en w3 ⟨rfl, hb3, hk3⟩
          have HB3 := Lib.hid hb3
          have HK3 := Lib.hid (HKP.out.trans hk3)
          clear hb3 hk3
          go_wp2_with fail
          refine (H1.out _ _ HB3.out).mono ?_
          rintro en w4 ⟨rfl, hb4, hk4⟩
          have HB4 := Lib.hid hb4
          have HK4 := Lib.hid (HK3.out.trans hk4)
          clear hb4 hk4
          go_wp2_with fail
          refine (H1.out _ _ HB4.out).mono ?_
          rintro en w5 ⟨rfl, hb5, hk5⟩
          have HB5 := Lib.hid hb5
          have HK5 := Lib.hid (HK4.out.trans hk5)
          clear hb5 hk5
          go_wp2_with fail
          go_roundw
          case rel => exact ⟨k + 1, _, _, rfl, by go_num, by omega, HB5.out, ⟨HT.out.1.ok, HT.out.1.er, HT.out.1.ed, by have := HT.out.2; omega, HT.out.1.g0, HT.out.1.hg⟩, HK5.out⟩
          case measure => simp [intOf]; omega
        · rw [if_neg hc] at HT0
          have HT := Lib.hid HT0
          have HC := Lib.hid (show s.can k (x.tmod 1000) = false by simpa using hc)
          clear HT0 hc
          have H1 := Lib.hid (has_same HT.out.1 HT.out.2 (by omega))
          have t0 : 0 ≤ (s.take k (x.tmod 1000)).l / 65536 := by have := HT.out.1.ok.l0; omega
          have t1 : (s.take k (x.tmod 1000)).l / 65536 ≤ d := by have := HT.out.1.ok.l1; rw [HT.out.1.ed] at this; omega
          have t2 := bnd_le HT.out.1 HT.out.2
          obtain ⟨t3, t4⟩ := bnd_g HT.out.1 r0 r1 d1 (by omega)
          go_wp2_with fail
          refine (take_any _ _ _ _ _ HB.out HS.out.ok).mono ?_
          rw [HC.out]
          rintro en w3 ⟨rfl, hb3, hk3⟩
          have HB3 := Lib.hid hb3
          have HK3 := Lib.hid (HKP.out.trans hk3)
          clear hb3 hk3
          go_wp2_with fail
          refine (H1.out _ _ HB3.out).mono ?_
          rintro en w4 ⟨rfl, hb4, hk4⟩
          have HB4 := Lib.hid hb4
          have HK4 := Lib.hid (HK3.out.trans hk4)
          clear hb4 hk4
          go_wp2_with fail
          refine (H1.out _ _ HB4.out).mono ?_
          rintro en w5 ⟨rfl, hb5, hk5⟩
          have HB5 := Lib.hid hb5
          have HK5 := Lib.hid (HK4.out.trans hk5)
          clear hb5 hk5
          go_wp2_with fail
          go_roundw
          case rel => exact ⟨k + 1, _, _, rfl, by go_num, by omega, HB5.out, ⟨HT.out.1.ok, HT.out.1.er, HT.out.1.ed, by have := HT.out.2; omega, HT.out.1.g0, HT.out.1.hg⟩, HK5.out⟩
          case measure => simp [intOf]; omega
      · have HT := Lib.hid (bnd_on HS.out r1 d1 (by omega))
        have H1 := Lib.hid (has_same HT.out.1 HT.out.2 (by omega))
        have t0 : 0 ≤ (s.on k).l / 65536 := by have := HT.out.1.ok.l0; omega
        have t1 : (s.on k).l / 65536 ≤ d := by have := HT.out.1.ok.l1; rw [HT.out.1.ed] at this; omega
        have t2 := bnd_le HT.out.1 HT.out.2
        obtain ⟨t3, t4⟩ := bnd_g HT.out.1 r0 r1 d1 (by omega)
        go_wp2_with fail
        refine (has_any _ _ _ _ HB.out HS.out.ok).mono ?_
        rintro en w3 ⟨rfl, hb3, hk3⟩
        have HB4 := Lib.hid hb3
        have HK4 := Lib.hid (HKP.out.trans hk3)
        clear hb3 hk3
        go_wp2_with fail
        refine (H1.out _ _ HB4.out).mono ?_
        rintro en w5 ⟨rfl, hb5, hk5⟩
        have HB5 := Lib.hid hb5
        have HK5 := Lib.hid (HK4.out.trans hk5)
        clear hb5 hk5
        go_wp2_with fail
        go_roundw
        case rel => exact ⟨k + 1, _, _, rfl, by go_num, by omega, HB5.out, ⟨HT.out.1.ok, HT.out.1.er, HT.out.1.ed, by have := HT.out.2; omega, HT.out.1.g0, HT.out.1.hg⟩, HK5.out⟩
        case measure => simp [intOf]; omega
    · go_wp2_with fail
      go_wp2_with fail
      refine (awake_any _).mono ?_
      rintro en w3 ⟨rfl, hb3⟩
      go_wp2_with fail
      go_ret
      refine ⟨rfl, ?_⟩
      rw [HBQ.out]
      exact (B1.out.trans (HKP.out.belowAt (by omega) (fun x hx => by have : x = B := hx; omega))).trans (hb3.mono (by omega))
theorem bound_any (r d : Int) (l : List Int) (v : Value) (w : World) (h : Rd w 1 v l.length (l.map (Value.int .i64))) : Calls Try.prog 3 #[.int .i64 r, .int .i64 d, v] w (TrueBelow w) := by
  by_cases hc : 0 ≤ r ∧ r ≤ 16777216 ∧ 1 ≤ d ∧ d ≤ 1048576 ∧ l.length ≤ 60
  · exact bound_in r d l v w h hc.2.2.2.2 hc.1 hc.2.1 hc.2.2.1 hc.2.2.2.1
  · have hc2 : r < 0 ∨ (0 ≤ r ∧ 16777216 < r) ∨ (0 ≤ r ∧ r ≤ 16777216 ∧ d < 1) ∨ (0 ≤ r ∧ r ≤ 16777216 ∧ 1 ≤ d ∧ 1048576 < d) ∨ (0 ≤ r ∧ r ≤ 16777216 ∧ 1 ≤ d ∧ d ≤ 1048576 ∧ 60 < l.length) := by omega
    obtain ⟨v, cp, rfl, h1, h2⟩ := h.form
    clear h hc
    rcases hc2 with h | ⟨h, h3⟩ | ⟨h, h3, h4⟩ | ⟨h, h3, h4, h5⟩ | ⟨h, h3, h4, h5, h6⟩
    all_goals
      go_enter Try.func3, Try.ntmps3
      go_wp2_with fail
      refine (awake_any _).mono ?_
      rintro en w2 ⟨rfl, hb⟩
      go_wp2_with fail
      go_ret
      exact ⟨rfl, hb⟩
end Go.Proofs.Ytjcopbfonbbaiaa
