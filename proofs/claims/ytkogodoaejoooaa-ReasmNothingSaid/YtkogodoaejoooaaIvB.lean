/- A set of ranges (chapter 5): Add. -/
import Derived.Test.YtkogodoaejoooaaIvA
import Derived.Deep.CutBlock
import Derived.BigRegion
namespace Go.Proofs.Ytkogodoaejoooaa
open Go.RowKit

def Mad (V : Value) (n : Nat) : Nat → Prop := fun x => V.ownBlock = some x ∨ n ≤ x
theorem not_mad {V : Value} {n b : Nat} (h : V.ownBlock ≠ some b) (hb : b < n) : ¬ Mad V n b := fun hh => by rcases hh with hh | hh; exact h hh; omega
theorem addf_iv (x : Rg) (Z : Nat) (f : Int) (W : World) (hZ : Z < W.heap.size) (cZ : W.cell? ⟨Z, 0, none⟩ = some (.int .i64 f)) :
    Calls Try.prog 28 #[.agg #[.int .i64 x.f, .int .i64 x.t], .pointer (some ⟨Z, 0, none⟩)] W fun e w' => e = .returned (.bool (decide (f ≤ x.t))) ∧ Below W.heap.size W w' := by
  have HB := Lib.hid ((Below.refl W.heap.size W).alloc (Nat.le_refl _) (.cells #[.int .i64 x.f, .int .i64 x.t] TR))
  have cn := (Ob.new W #[.int .i64 x.f, .int .i64 x.t] TR).blk
  obtain ⟨ln, cn, fn⟩ := cn
  have c1 : (W.alloc (.cells #[.int .i64 x.f, .int .i64 x.t] TR)).cell? ⟨W.heap.size, 1, none⟩ = some (.int .i64 x.t) := cn 1
  have cZ' : (W.alloc (.cells #[.int .i64 x.f, .int .i64 x.t] TR)).cell? ⟨Z, 0, none⟩ = some (.int .i64 f) := (World.cell?_alloc_past _ Z 0 hZ).trans cZ
  clear cn fn
  go_enter Try.func28, Try.ntmps28
  go_wp2_with fail
  go_ret
  exact ⟨rfl, HB.out⟩
set_option maxRecDepth 100000 in
theorem addno_iv (b B0 : Nat) (V : Value) (s : Is) (f t : Int) (w : World) (h : Iv b B0 V s w) (hm : ¬ s.may f t) : Calls Try.prog 18 #[.pointer (some ⟨b, 0, none⟩), .int .i64 f, .int .i64 t] w fun e w' => e = .returned (.tuple #[.int .i64 0, .int .i64 1]) ∧ Below w.heap.size w w' := by
  have HB := Lib.hid ((Below.refl w.heap.size w).alloc (Nat.le_refl _) (.cells #[.int .i64 f] 3))
  have HI := Lib.hid (h.below HB.out)
  obtain ⟨ln, cn, fn⟩ := (Ob.new w #[.int .i64 f] 3).blk
  have c0 : (w.alloc (.cells #[.int .i64 f] 3)).cell? ⟨w.heap.size, 0, none⟩ = some (.int .i64 f) := cn 0
  clear cn fn h
  go_enter Try.func18, Try.ntmps18
  go_wp2_with fail
  refine (may_iv b B0 V s f t _ HI.out).mono ?_
  rw [decide_eq_false hm]
  rintro e w1 ⟨rfl, rfl⟩
  go_wp2_with fail
  go_ret2
  exact ⟨rfl, HB.out⟩
set_option maxRecDepth 100000 in
theorem addzero_iv (b B0 : Nat) (V : Value) (s : Is) (f t : Int) (w : World) (h : Iv b B0 V s w) (ho : s.ok) (hm : s.may f t) (hz : s.fr f t = 0) : Calls Try.prog 18 #[.pointer (some ⟨b, 0, none⟩), .int .i64 f, .int .i64 t] w fun e w' => e = .returned (.tuple #[.int .i64 0, .int .i64 0]) ∧ Below w.heap.size w w' := by
  have HB := Lib.hid ((Below.refl w.heap.size w).alloc (Nat.le_refl _) (.cells #[.int .i64 f] 3))
  have HI := Lib.hid (h.below HB.out)
  obtain ⟨ln, cn, fn⟩ := (Ob.new w #[.int .i64 f] 3).blk
  have c0 : (w.alloc (.cells #[.int .i64 f] 3)).cell? ⟨w.heap.size, 0, none⟩ = some (.int .i64 f) := cn 0
  have hs : w.heap.size ≤ (w.alloc (.cells #[.int .i64 f] 3)).heap.size := by rw [World.size_alloc]; omega
  clear cn fn h
  go_enter Try.func18, Try.ntmps18
  go_wp2_with fail
  refine (may_iv b B0 V s f t _ HI.out).mono ?_
  rw [decide_eq_true hm]
  rintro e w1 ⟨rfl, rfl⟩
  go_wp2_with fail
  refine (fresh_iv b B0 V s f t _ HI.out ho hm).mono ?_
  rw [hz]
  rintro e w2 ⟨rfl, hb2⟩
  have HB2 := Lib.hid (HB.out.trans (hb2.mono hs))
  clear hb2
  go_wp2_with fail
  go_ret2
  exact ⟨rfl, HB2.out⟩
set_option maxRecDepth 100000 in
set_option maxHeartbeats 4000000 in
theorem addyes_iv (b B0 : Nat) (V : Value) (s : Is) (f t : Int) (w : World) (h : Iv b B0 V s w) (ho : s.ok) (hm : s.may f t) (hz : s.fr f t ≠ 0) (hn : s.l.length ≤ 100000) : Calls Try.prog 18 #[.pointer (some ⟨b, 0, none⟩), .int .i64 f, .int .i64 t] w fun e w' => e = .returned (.tuple #[.int .i64 (s.fr f t), .int .i64 0]) ∧ IvPost b B0 V ⟨s.tot, put s.l f t⟩ w w' := by
  have hb := (Below.refl w.heap.size w).alloc (Nat.le_refl _) (.cells #[.int .i64 f] 3)
  have HI := Lib.hid (h.below hb)
  have HI0 := Lib.hid h
  have HO := Lib.hid ho
  have HZ := Lib.hid (Ob.new w #[.int .i64 f] 3)
  have HK := Lib.hid (Kept.of_below (M := WM b V) hb)
  have hs : w.heap.size ≤ (w.alloc (.cells #[.int .i64 f] 3)).heap.size := by rw [World.size_alloc]; omega
  have hbZ : b ≠ w.heap.size := by have := h.ob.lt; omega
  have hVZ : V.ownBlock ≠ some w.heap.size := fun hh => by have := (h.lt _ (.inr hh)).2; omega
  have hzb : (s.fr f t == 0) = false := beq_eq_false_iff_ne.2 hz
  generalize hFR : s.fr f t = FR at *
  have HFR := Lib.hid hFR
  obtain ⟨a, c, hv, _, _⟩ := (Rd.of_own h.own).form
  have HV := Lib.hid hv
  have HM := Lib.hid hm
  clear h ho hb hz hv hFR hm
  go_enter Try.func18, Try.ntmps18
  go_upto_region 1 with fail
  generalize w.alloc (.cells #[.int .i64 f] 3) = w1 at *
  generalize hZZ : w.heap.size = Z at *
  have HZZ := Lib.hid hZZ
  clear hZZ
  obtain ⟨lz, cz, fz⟩ := HZ.out.blk
  have cz0 : w1.cell? ⟨Z, 0, none⟩ = some (.int .i64 f) := cz 0
  clear cz
  go_wp2_with fail
  refine (may_iv b B0 V s f t _ HI.out).mono ?_
  rw [decide_eq_true HM.out]
  rintro e w2 ⟨rfl, rfl⟩
  go_wp2_with fail
  refine (fresh_iv b B0 V s f t _ HI.out HO.out HM.out).mono ?_
  rw [HFR.out]
  rintro e w2 ⟨rfl, hb2⟩
  have hk2 := Kept.of_below (M := fun _ => False) hb2
  have HI2 := Lib.hid (HI.out.keptF hk2)
  have HZ2 := Lib.hid (HZ.out.kept hk2 id)
  have HK2 := Lib.hid (HK.out.trans (kept_any hk2))
  clear hb2 hk2 lz fz cz0
  obtain ⟨lb, cb, fb⟩ := HI2.out.ob.blk
  have c1 : w2.cell? ⟨b, 1, none⟩ = some (.slice a s.l.length c) := by rw [cb 1, HV.out]; rfl
  have hrd := Rd.of_own HI2.out.own
  rw [HV.out] at hrd
  clear cb
  go_wp2_with fail
  refine (index_rg 28 #[.pointer (some ⟨Z, 0, none⟩)] (fun y => decide (f ≤ y.t)) s.l _ _ (enters_of Try.func28 (by kernel_rfl) rfl) hrd (by omega) (fun W x hB => by
    have h1 := (HZ2.out.below hB).blk
    exact addf_iv x Z f W h1.1 (h1.2.1 0))).mono ?_
  rintro e W3 ⟨hb3, hfind⟩
  obtain ⟨r, rfl, hr⟩ : ∃ r : Int, e = .returned (.int .i64 r) ∧ ((r = -1 ∧ Hid (∀ y ∈ s.l, y.t < f)) ∨ ∃ i : Nat, r = i ∧ i < s.l.length ∧ Hid (∀ y ∈ s.l.take i, y.t < f) ∧ Hid (∀ h : i < s.l.length, f ≤ s.l[i].t)) := by
    rcases hfind with ⟨rfl, h⟩ | ⟨i, rfl, ⟨h1, h2⟩, h3⟩
    · exact ⟨_, rfl, .inl ⟨rfl, Lib.hid fun y hy => by have := of_decide_eq_false (h y hy); omega⟩⟩
    · exact ⟨_, rfl, .inr ⟨i, rfl, h1, Lib.hid fun y hy => by have := of_decide_eq_false (h3 y hy); omega, Lib.hid fun _ => of_decide_eq_true h2⟩⟩
  have hk3 := Kept.of_below (M := fun _ => False) hb3
  have HI3 := Lib.hid (HI2.out.keptF hk3)
  have HZ3 := Lib.hid (HZ2.out.kept hk3 id)
  have HK3 := Lib.hid (HK2.out.trans (kept_any hk3))
  clear hb3 hk3 lb fb c1 hrd hfind
  obtain ⟨lb, cb, fb⟩ := HI3.out.ob.blk
  have c1 : W3.cell? ⟨b, 1, none⟩ = some (.slice a s.l.length c) := by rw [cb 1, HV.out]; rfl
  clear cb
  go_upto_if 28 with fail
  go_cut [8] from 27 (fun s8 wx => ∃ i : Nat, s8 = .int .i64 i ∧ i ≤ s.l.length ∧ Hid (∀ y ∈ s.l.take i, y.t < f) ∧ Hid (∀ h : i < s.l.length, f ≤ s.l[i].t) ∧ wx = W3)
  case first =>
    rcases hr with ⟨rfl, h1⟩ | ⟨i, rfl, h1, h2, h3⟩
    · go_wp2_with fail
      go_meet
      exact ⟨s.l.length, rfl, Nat.le_refl _, Lib.hid (fun y hy => h1.out y (List.mem_of_mem_take hy)), Lib.hid (fun h => absurd h (Nat.lt_irrefl _)), rfl⟩
    · go_wp2_with fail
      go_meet
      exact ⟨i, rfl, by omega, h2, h3, rfl⟩
  case rest =>
  obtain ⟨i, rfl, hi, HB4, HA4, rfl⟩ := hcut
  clear hr
  have HPT := Lib.hid (put_at s.l f t i hi HB4.out HA4.out)
  have HF0 := HM.out.1
  have HF1 := HM.out.2.1
  have HF2 := HM.out.2.2
  have ht1 := HO.out.t1
  have HWZ : Hid (∀ x, WM b V x → ¬ Only Z x) := Lib.hid (fun x hx (hh : x = Z) => by
    rcases hx with hx | hx
    · exact hbZ (hx.symm.trans hh)
    · exact hVZ (by rw [hx, hh]))
  clear c1 lb fb HI HI2 HZ HZ2 HK HK2
  go_wp2_with fail
  go_loopw [2, 9] (fun s2 s9 wr => ∃ (k : Nat) (F T : Int), s9 = .int .i64 k ∧ s2 = .int .i64 T ∧ i ≤ k ∧ k ≤ s.l.length ∧ Hid (absorb (s.l.drop i) f t = absorb (s.l.drop k) F T) ∧ 0 ≤ F ∧ F ≤ T ∧ T ≤ s.tot ∧ Ob wr Z #[.int .i64 F] 3 ∧ Kept (Only Z) wc wr) (fun _ i _ => s.l.length - (intOf i).toNat)
  case atStart => exact ⟨i, f, t, rfl, rfl, Nat.le_refl _, hi, Lib.hid rfl, HF0, HF1, HF2, HZ3.out, Kept.refl _ _⟩
  case round =>
    obtain ⟨k, F, T, rfl, rfl, hik, hkl, HAB, hF, hFT, hT, hoz, hkp⟩ := hrel
    have HZ4 := Lib.hid hoz
    have HKP := Lib.hid hkp
    have HI4 := Lib.hid (HI3.out.kept hkp HWZ.out)
    clear hoz hkp
    obtain ⟨lb, cb, fb⟩ := HI4.out.ob.blk
    have c1 : wr.cell? ⟨b, 1, none⟩ = some (.slice a s.l.length c) := by rw [cb 1, HV.out]; rfl
    obtain ⟨lz, cz, fz⟩ := HZ4.out.blk
    have cz0 : wr.cell? ⟨Z, 0, none⟩ = some (.int .i64 F) := cz 0
    have hrd := Rd.of_own HI4.out.own
    rw [HV.out] at hrd
    clear cb cz
    by_cases hst : ∃ h : k < s.l.length, s.l[k].f ≤ T
    · obtain ⟨hlt, hle⟩ := hst
      have HS := Lib.hid (absorb_step (t := T) (f := F) hlt hle)
      have h3 := asc_le HO.out.asc s.l[k] (List.getElem_mem hlt)
      obtain ⟨g, o, rfl, hg, cwa⟩ := Rd.row rowRg (by decide) hrd k hlt
      have c0 := cwa 0 (.int .i64 s.l[k].f) rfl
      have c2 := cwa 1 (.int .i64 s.l[k].t) rfl
      rw [Nat.add_zero] at c0
      generalize s.l[k].f = rf at *
      generalize s.l[k].t = rt at *
      clear cwa hrd
      go_wp2_with fail
      have mixed : Try.prog.follows .mixedOrders = true := by kernel_rfl
      go_big_region
      go_wp2_with fail
      go_roundw
      case rel => exact ⟨k + 1, min F rf, max T rt, by go_num, rfl, by omega, by omega, Lib.hid (HAB.out.trans HS.out), by omega, by omega, by omega, (Ob.cast (HZ4.out.set 0 (.int .i64 (min F rf))) rfl).drew, (HKP.out.setO).drewR⟩
      case measure => simp [intOf]; omega
    · have HE := Lib.hid (absorb_end (l := s.l) (i := k) (f := F) (t := T) (fun h => by
        apply Classical.byContradiction; intro h2; exact hst ⟨h, by omega⟩))
      have HLL := Lib.hid (fun h : k < s.l.length => show T < s.l[k].f by apply Classical.byContradiction; intro h2; exact hst ⟨h, by omega⟩)
      clear hst
      rcases Nat.lt_or_eq_of_le hkl with hlt | hlt
      iterate 2
        · first
            | (have hlt' : k < s.l.length := hlt
               have hgt := HLL.out hlt'
               obtain ⟨g, o, he, hg, cwa⟩ := Rd.row rowRg (by decide) hrd k hlt'
               have c0 := cwa 0 (.int .i64 s.l[k].f) rfl
               rw [Nat.add_zero] at c0
               rw [he] at c1
               generalize s.l[k].f = rf at *
               clear cwa he)
            | (have hdk : decide (k < s.l.length) = false := decide_eq_false (by omega)
               have HLT := Lib.hid hlt
               clear hlt)
          clear hrd
          go_wp2_with fail
          have c1' : wr.cell? ⟨b, 1, none⟩ = some (.slice a s.l.length c) := by rw [HI4.out.ob.blk.2.1 1, HV.out]; rfl
          clear c1
          have nb := not_mad HI0.out.ne lb
          have nz := not_mad hVZ lz
          have h1r := one_rg s.l
          refine wp_heads (M := (Mad V wr.heap.size)) 14 (by kernel_rfl) (by kernel_rfl) ?_
          refine hd_quiet [true, true, true, true, true, true, true, true, true, true, false, false, false, false, false] (by kernel_rfl) ?_
          simp only [pickAt]
          repeat (go_big_quiet_step (fail))
          refine wpQuiet_nil ?_
          refine hd_act 10 rfl (by kernel_rfl) ?_
          refine run_want rfl ?_
          intro A hA
          go_simp
          have hown := own_kept HI4.out.own (((Kept.drew (fun _ => False) wr)).alloc (.cells #[.int .i64 F, .int .i64 T] TR)) (fun _ _ hh => hh)
          rw [HV.out] at hown
          have hVw : ∀ x, (Value.slice a s.l.length c).ownBlock = some x → x < wr.heap.size := by rw [← HV.out]; exact fun x hx => (own_lt HI4.out.own x hx).2
          refine hA _ _ (((Kept.refl _ _).alloc _)) ?_
          try simp only [Act.put, List.setIfInBounds_toArray, List.set_cons_zero, List.set_cons_succ]
          clear A hA
          refine hd_quiet [false, false, false, false, false, false, false, false, false, false, false, false, false, false, false] (by kernel_rfl) ?_
          simp only [pickAt]
          repeat (go_big_quiet_step (fail))
          refine wpQuiet_nil ?_
          refine hd_act 11 rfl (by kernel_rfl) ?_
          refine run_want rfl ?_
          intro A hA
          go_simp
          refine (replace_rg B0 (.slice a s.l.length c) s.l.length i k wr.heap.size 1 _ [.int .i64 F, .int .i64 T] _ hown hik hkl rfl (Rw.new wr.drew #[.int .i64 F, .int .i64 T] TR) (Nat.le_refl _) (by decide)
            (fun hh => by have := hVw _ hh; omega) h1r (fun u hu => by simp at hu; rcases hu with rfl | rfl <;> rfl) (by omega) (by have := HI0.out.bb; simp; omega)).mono ?_
          rintro e w5 ⟨V5, rfl, ho5, hk5, hb5⟩
          obtain ⟨a5, c5, rfl, _, _⟩ := (Rd.of_own ho5).form
          have hk5' : Kept (Mad V wr.heap.size) (wr.drew.alloc (.cells #[.int .i64 F, .int .i64 T] TR)) w5 := hk5.mono (fun y _ hy => .inl (by rw [HV.out]; exact hy))
          have ob5 := Lib.hid ((HI4.out.ob.drew.alloc (.cells #[.int .i64 F, .int .i64 T] TR)).kept hk5 (fun hh => HI0.out.ne (by rw [HV.out]; exact hh)))
          have hs5 : Hid (Z ≤ wc.heap.size) := Lib.hid (by have := HZ3.out.lt; omega)
          have hkW : Kept (WM b V) w wr := ⟨HKP.out.os.trans HK3.out.os, HKP.out.tape.trans HK3.out.tape, HKP.out.output.trans HK3.out.output, Nat.le_trans HK3.out.size HKP.out.size, fun x hx hM => (HKP.out.block x (Nat.lt_of_lt_of_le hx HK3.out.size) (fun (hh : x = Z) => by have := HZZ.out; omega)).trans (HK3.out.block x hx hM)⟩
          have HK5 := Lib.hid ((hkW.drewR.alloc (.cells #[.int .i64 F, .int .i64 T] TR)).trans (hk5.mono (N := WM b V) (fun x _ hx => .inr (by rw [HV.out]; exact hx))))
          have hws : w.heap.size ≤ wr.heap.size := hkW.size
          have hpl : put s.l f t = s.l.take i ++ ⟨F, T⟩ :: s.l.drop k := by rw [HPT.out, HAB.out, HE.out]
          have HP := Lib.hid (iv_store (s' := ⟨s.tot, put s.l f t⟩) HI0.out HK5.out ob5.out ho5 (by
            rcases hb5 with h | h
            · exact .inl (by rw [h, HV.out])
            · exact .inr (fun x hx => by rw [h] at hx; injection hx with hx; rw [← hx, World.size_alloc]; exact Nat.le_succ_of_le hws)) (by show _ = (put s.l f t).flatMap Rg.row; rw [hpl]; exact flat_rep s.l i k ⟨F, T⟩) (by show _ = (put s.l f t).length; rw [hpl]; simp; omega))
          have lb5 := Lib.hid (ob5.out.blk)
          refine hA _ _ (hk5') ?_
          try simp only [Act.put, List.setIfInBounds_toArray, List.set_cons_zero, List.set_cons_succ]
          clear A hA
          clear hk5 hk5' hb5 ho5 hown hVw hpl
          refine hd_quiet [false, false, false, false, false, false, false, false, false, false, false, false, true, true, false] (by kernel_rfl) ?_
          simp only [pickAt]
          repeat (go_big_quiet_step (fail))
          refine wpQuiet_nil ?_
          clear lb fb c1' nb nz
          obtain ⟨lb, cb, fb⟩ := lb5.out
          have c15 := cb 1
          clear cb
          refine hd_tail rfl (by kernel_rfl) ?_
          simp only [List.drop_succ_cons, List.drop_zero]
          go_wp2_with fail
          refine NoPanic.normal ?_
          go_wp2_with fail
          go_ret2
          exact ⟨rfl, HP.out⟩
end Go.Proofs.Ytkogodoaejoooaa
