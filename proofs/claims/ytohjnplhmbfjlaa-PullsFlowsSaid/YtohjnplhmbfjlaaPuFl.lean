/- The law PullsFlows (chapter 18), walked. -/
import Derived.Test.YtohjnplhmbfjlaaPuN
import Derived.Test.YtohjnplhmbfjlaaPuZ
namespace Go.Proofs.Ytohjnplhmbfjlaa
open Go.RowKit

set_option maxRecDepth 100000 in
set_option maxHeartbeats 8000000 in
theorem flows_in (F n : Nat) (d : Int) (w : World) (h1 : 1 ≤ F) (h20 : F ≤ 20) (hn : n ≤ 100) (_ : -9223372036854775808 ≤ d ∧ d ≤ 9223372036854775807) : Calls Try.prog 5 #[.int .i64 F, .int .i64 n, .int .i64 d] w (TrueBelow w) := by
  go_enter Try.func5, Try.ntmps5
  go_wp2_with fail
  refine (new_pu 20 w (by decide)).mono ?_
  rintro e wa ⟨rfl, hp1, hb1⟩
  rw [wfl_empty F] at hp1
  have HP1 := Lib.hid hp1
  have B1 := Lib.hid hb1
  have s1 := hb1.size
  obtain ⟨b, HBZ⟩ : ∃ b, Hid (w.heap.size = b) := ⟨_, Lib.hid rfl⟩
  rw [HBZ.out] at HP1 B1 s1 ⊢
  have O1 : Hid ((Wfl F F).ok 0) := Lib.hid (by rw [← wfl_empty F]; exact empty_ok (by decide) (by decide))
  clear hp1 hb1
  go_wp2_with fail
  go_loopw [9] (fun i wr => ∃ (p : Nat) (V : Nat → Value), i = .int .i64 p ∧ p ≤ F ∧ Pu b b V (Wfl F p) wr ∧ Below b w wr ∧ Hid ((Wfl F p).ok 0)) (fun i _ => (intOf i).toNat)
  case atStart => exact ⟨F, _, rfl, Nat.le_refl _, HP1.out, B1.out, O1⟩
  case round =>
    obtain ⟨p, V, rfl, hp, hpu, hb, HO⟩ := hrel
    have HPU := Lib.hid hpu
    have HB := Lib.hid hb
    clear hpu hb O1 HP1 B1
    by_cases hlt : 1 ≤ p
    · obtain ⟨p, rfl⟩ : ∃ q, p = q + 1 := ⟨p - 1, by omega⟩
      have hpi : (1 : Int) ≤ ((p + 1 : Nat) : Int) := by omega
      have hw6 : IntKind.u64.wrap ((p + 1 : Nat) : Int) = ((p : Nat) : Int) + 1 := by simp [IntKind.wrap_u64]; omega
      go_wp2_with fail
      have hq : okWant 3 ((p : Int) + 1) 1000 := by unfold okWant; omega
      refine (want_pu b b V (Wfl F (p + 1)) 0 3 ((p : Int) + 1) 1000 _ HPU.out HO.out hq).mono ?_
      rintro e w3 ⟨i, f, hf, rfl, hpo⟩
      have O2 := want_ok (n := 1000) HO.out (Int.le_refl 0) (by decide) hq hf
      obtain ⟨rfl, rfl⟩ := wfl_find hf
      have e2 := wfl_step (F := F) (d := p) (by omega) h20
      rw [e2] at hpo O2 ⊢
      obtain ⟨V2, hp2, hb2⟩ := hpo.opn HPU.out
      have HP2 := Lib.hid hp2
      have B2 := Lib.hid (HB.out.trans hb2)
      have HO2 := Lib.hid O2
      clear hpo hp2 hb2 e2 hf O2
      go_wp2_with fail
      go_roundw
      case rel => exact ⟨p, V2, rfl, by omega, HP2.out, B2.out, HO2⟩
      case measure => simp [intOf]
    · obtain rfl : p = 0 := by omega
      rw [wfl_zero F] at HPU HO
      rw [show (((0 : Nat) : Int)) = 0 from rfl]
      have sb := HB.out.size
      rw [HBZ.out] at sb
      go_wp2_with fail
      go_loopw [10] (fun s wr => ∃ (i : Nat) (V : Nat → Value), s = .int .i64 i ∧ i ≤ n ∧ Pu b b V (Flst F i) wr ∧ Below b w wr ∧ Hid ((Flst F i).ok i)) (fun a _ => n - (intOf a).toNat)
      case atStart => exact ⟨0, V, rfl, Nat.zero_le _, HPU.out, HB.out, HO⟩
      case round =>
        obtain ⟨i, V1, rfl, hi, hpu, hb, HOI⟩ := hrel
        have HPI := Lib.hid hpu
        have HBI := Lib.hid hb
        clear hpu hb HPU HB HO
        by_cases hlt : i < n
        · obtain ⟨k0, hk0, ht0, hid0⟩ := flr_next (F := F) (i := i)
          have hpk := flr_pick h1 (show i ≤ 200 by omega)
          have hm := Nat.mod_lt i h1
          have hL : (Flst F i).L 3 = flr F i := by simp [Flst]
          have hg : got F i (i % F) = i / F := by unfold got; rw [if_neg (Nat.lt_irrefl _)]; omega
          have HK := Lib.hid (And.intro ht0 (And.intro hid0 (And.intro hpk (And.intro hL hg))))
          clear ht0 hid0 hpk hL hg
          go_wp2_with fail
          refine (next_pu b b V1 (Flst F i) i _ HPI.out HOI.out (by omega)).mono ?_
          intro e w5 hnx
          rcases hnx with ⟨h, _⟩ | ⟨k, i', x, h3, h4, h5, h6, rfl, h7⟩
          · have := h k0 hk0
            unfold Ps.idle at this
            rw [HK.out.1, HK.out.2.2.1] at this
            cases this
          have hpk1 : pick ((Flst F i).L ((Flst F i).turn k0)) ((Flst F i).Z ((Flst F i).turn k0)) = some (i % F) := by rw [HK.out.1]; exact HK.out.2.2.1
          obtain ⟨rfl, rfl⟩ := next_is HK.out.2.1 hpk1 h4 h5
          rw [HK.out.1] at h5 h6 h7 ⊢
          have O2 := Lib.hid (serve_ok HOI.out (by decide) h5 h6)
          rw [HK.out.2.2.2.1, flr_get hm, HK.out.2.2.2.2] at h6
          obtain rfl : x = ⟨(i % F : Nat) + 1, 1000 - (i / F : Nat), (i / F : Nat)⟩ := by injection h6 with h6; exact h6.symm
          rw [flr_step h1] at h7 O2
          obtain ⟨V5, hp5, hb5⟩ := h7.opn HPI.out
          have B5 := Lib.hid (HBI.out.trans hb5)
          have HP5 := Lib.hid hp5
          have hr1 : i / F ≤ 100 := Nat.le_trans (Nat.div_le_self _ _) (by omega)
          have hmi : (i : Int) % (F : Int) = ((i % F : Nat) : Int) := by simp
          have hri : (i : Int) / (F : Int) = ((i / F : Nat) : Int) := by simp
          obtain ⟨m, HM⟩ : ∃ m, Hid (i % F = m) := ⟨_, Lib.hid rfl⟩
          obtain ⟨r, HR⟩ : ∃ r, Hid (i / F = r) := ⟨_, Lib.hid rfl⟩
          rw [HR.out] at hr1 hri
          rw [HM.out] at hm hmi
          rw [HM.out, HR.out]
          have hF0 : ((F : Int) == 0) = false := beq_eq_false_iff_ne.2 (by omega)
          have hw5 : IntKind.u64.wrap (IntKind.u64.wrap (m : Int) + 1) = (m : Int) + 1 := by simp [IntKind.wrap_u64]; omega
          have hw6 : IntKind.u64.wrap (m : Int) = (m : Int) := by simp [IntKind.wrap_u64]; omega
          clear h3 h4 h5 h6 h7 hp5 hb5 hpk1
          go_wp2_with fail
          go_roundw
          case rel => exact ⟨i + 1, V5, by go_num, by omega, HP5.out, B5.out, O2⟩
          case measure => simp [intOf]; omega
        · obtain rfl : n = i := by omega
          have hsw : b ≤ wr.heap.size := Nat.le_of_lt (Nat.lt_of_le_of_lt HPI.out.base HPI.out.ob.lt)
          rcases (by omega : d < 1 ∨ (1 ≤ d ∧ (F : Int) < d) ∨ (1 ≤ d ∧ d ≤ F)) with hd | ⟨hd, hd2⟩ | ⟨hd, hd2⟩
          iterate 2
            · go_wp2_with fail
              refine (drop_pu b b V1 _ n 3 99 _ HPI.out HOI.out (by decide)).mono ?_
              rintro e w5 ⟨j, f, hf, rfl, hpo⟩
              have hff : f = false := by
                cases f
                · rfl
                · obtain ⟨hj, hid⟩ := hf.2.2.2.1 rfl
                  have hL : (Flst F n).L 3 = flr F n := by simp [Flst]
                  have : ∀ x ∈ (Flst F n).L 3, x.id ≤ 20 := by
                    rw [hL]
                    intro x hx
                    obtain ⟨q, hq, rfl⟩ := List.getElem_of_mem hx
                    have hq' : q < F := by rw [flr_len] at hq; exact hq
                    have h2 := flr_get (i := n) hq'
                    rw [List.getElem?_eq_getElem hq] at h2
                    injection h2 with h2
                    rw [h2]
                    show (q : Int) + 1 ≤ 20
                    omega
                  have := this _ (List.getElem_mem hj)
                  omega
              subst hff
              have hlk : (lk ((Flst F n).L 3) j false).wt = 0 := rfl
              rw [hlk]
              obtain ⟨V5, hp5, hb5⟩ := hpo.opn HPI.out
              have B5 := Lib.hid (HBI.out.trans hb5)
              have s5 := B5.out.size
              rw [HBZ.out] at s5
              clear hf hpo hp5 hb5 hlk
              go_wp2_with fail
              refine (dropno_pu _ 9 1 _ (.inr (by decide))).mono ?_
              rintro e w6 ⟨rfl, hb6⟩
              have B6 := Lib.hid (B5.out.trans (hb6.mono s5))
              have s6 := B6.out.size
              rw [HBZ.out] at s6
              clear hb6
              go_wp2_with fail
              refine (awake_any _).mono ?_
              rintro e w8 ⟨rfl, hb8⟩
              go_wp2_with fail
              go_ret
              refine ⟨by simp, ?_⟩
              rw [HBZ.out]
              exact B6.out.trans (hb8.mono s6)
          · obtain ⟨D, rfl⟩ : ∃ D : Nat, d = D := ⟨d.toNat, by omega⟩
            have hdd : 1 ≤ D ∧ D ≤ F := by omega
            have HDD := Lib.hid hdd
            have hwD : IntKind.u64.wrap (D : Int) = (D : Int) := by simp [IntKind.wrap_u64]; omega
            clear hdd
            go_wp2_with fail
            refine (waits_pu b b V1 _ n 3 D _ HPI.out HOI.out (by decide)).mono ?_
            rintro e w5 ⟨j, f, hf, rfl, hb5⟩
            obtain ⟨rfl, rfl⟩ := flr_find HDD.out hf
            have hL : (Flst F n).L 3 = flr F n := by simp [Flst]
            obtain ⟨y, HY⟩ : ∃ y, Hid ((lk ((Flst F n).L 3) (D - 1) true).wt = y) := ⟨_, Lib.hid rfl⟩
            have hy : 799 ≤ y ∧ y ≤ 1000 := by
              rw [← HY.out, hL]
              unfold lk
              rw [if_pos rfl, List.getD_eq_getElem?_getD, flr_get (by have := HDD.out; omega)]
              have := got_small (F := F) (i := n) (j := D - 1) (by omega)
              show (799 : Int) ≤ 1000 - (got F n (D - 1) : Nat) ∧ (1000 : Int) - (got F n (D - 1) : Nat) ≤ 1000
              omega
            rw [HY.out]
            obtain ⟨hy1, hy2⟩ := hy
            have HP5 := Lib.hid (HPI.out.below (hb5.mono (by omega)))
            have B5 := Lib.hid (HBI.out.trans (hb5.mono hsw))
            clear hf hb5 hL
            go_wp2_with fail
            refine (drop_pu b b V1 _ n 3 D _ HP5.out HOI.out (by decide)).mono ?_
            rintro e w6 ⟨j, f, hf, rfl, hpo⟩
            have O6 := Lib.hid (drop_ok HOI.out (by decide) hf)
            obtain ⟨rfl, rfl⟩ := flr_find HDD.out hf
            have D6 := Lib.hid (dr_start (F := F) (i := n) (by omega) HDD.out)
            rw [HY.out]
            obtain ⟨V6, hp6, hb6⟩ := hpo.opn HP5.out
            have HP6 := Lib.hid hp6
            have B6 := Lib.hid (B5.out.trans hb6)
            obtain ⟨s6, HS6⟩ : ∃ s6, Hid ((Flst F n).dropAt 3 (D - 1) true = s6) := ⟨_, Lib.hid rfl⟩
            rw [HS6.out] at HP6 O6 D6
            clear hf hpo hp6 hb6
            go_wp2_with fail
            go_loopw [16] (fun z wr => ∃ (i : Nat) (s : Ps) (V : Nat → Value), z = .int .i64 i ∧ i ≤ F ∧ Pu b b V s wr ∧ Below b w wr ∧ Hid (s.ok ((n : Int) + i)) ∧ Hid (Dr s F D (799 - i))) (fun a _ => F - (intOf a).toNat)
            case atStart => exact ⟨0, s6, V6, rfl, Nat.zero_le _, HP6.out, B6.out, Lib.hid (by simpa using O6.out), Lib.hid (by simpa using D6.out)⟩
            case round =>
              obtain ⟨i, s, V, rfl, hi, hpu, hb, HOS, HDS⟩ := hrel
              rename World => wi
              have HPS := Lib.hid hpu
              have HBS := Lib.hid hb
              clear hpu hb
              by_cases hlt : i < F
              · go_wp2_with fail
                refine (next_pu b b V s ((n : Int) + i) _ HPS.out HOS.out (by omega)).mono ?_
                intro e w5 hnx
                rcases hnx with ⟨h, rfl, hb5⟩ | ⟨k, i', x, h3, h4, h5, h6, rfl, h7⟩
                · have hF1 := dr_idle HDS.out (by omega) HOS.out.la h
                  have hF1i : decide ((1 : Int) < F) = false := decide_eq_false (by omega)
                  have hP5 := Lib.hid (HPS.out.below hb5)
                  have hB5 := Lib.hid (HBS.out.trans (hb5.mono (Nat.le_of_lt (Nat.lt_of_le_of_lt HPS.out.base HPS.out.ob.lt))))
                  clear hb5 h hF1
                  go_wp2_with fail
                  go_roundw
                  case rel => exact ⟨i + 1, s, V, by go_num, by omega, hP5.out, hB5.out, Lib.hid (ok_mono HOS.out (by omega)), Lib.hid ⟨HDS.out.o, HDS.out.n, fun x hx => ⟨by have := (HDS.out.w x hx).1; omega, (HDS.out.w x hx).2⟩⟩⟩
                  case measure => simp [intOf]; omega
                · have hF1 : F ≠ 1 := fun hh => dr_none HDS.out hh _ _ h5
                  have hF1i : decide ((1 : Int) < F) = true := decide_eq_true (by omega)
                  obtain ⟨hxd, hdr⟩ := dr_serve HDS.out h5 h6
                  have hxd' : (x.id == (D : Int)) = false := beq_eq_false_iff_ne.2 hxd
                  have O7 := Lib.hid (serve_ok HOS.out (Nat.mod_lt _ (by decide)) h5 h6)
                  have D7 := Lib.hid hdr
                  obtain ⟨V7, hp7, hb7⟩ := h7.opn HPS.out
                  have P7 := Lib.hid hp7
                  have B7 := Lib.hid (HBS.out.trans hb7)
                  clear h3 h4 h5 h6 h7 hp7 hb7 hdr hxd hF1
                  go_wp2_with fail
                  go_roundw
                  case rel => exact ⟨i + 1, _, V7, by go_num, by omega, P7.out, B7.out, Lib.hid (ok_mono O7.out (by omega)), Lib.hid (by have h := D7.out; rw [show (799 : Int) - i - 1 = 799 - ((i + 1 : Nat) : Int) by omega] at h; exact h)⟩
                  case measure => simp [intOf]; omega
              · obtain rfl : F = i := by omega
                have hsw : b ≤ wi.heap.size := Nat.le_of_lt (Nat.lt_of_le_of_lt HPS.out.base HPS.out.ob.lt)
                go_wp2_with fail
                refine (pulled_pu b b V s _ 3 D _ HPS.out HOS.out (by decide)).mono ?_
                rintro e w5 ⟨j, f, hf, rfl, hb5⟩
                have hff : f = false := by
                  cases f
                  · rfl
                  · obtain ⟨hj, hid⟩ := hf.2.2.2.1 rfl
                    exact absurd hid (HDS.out.w _ (List.getElem_mem hj)).2
                subst hff
                have hlk : (lk (s.L 3) j false).pl = 0 := rfl
                rw [hlk]
                have B5 := Lib.hid (HBS.out.trans (hb5.mono hsw))
                have s5 := B5.out.size
                rw [HBZ.out] at s5
                clear hf hb5 hlk
                go_wp2_with fail
                refine (awake_any _).mono ?_
                rintro e w8 ⟨rfl, hb8⟩
                go_wp2_with fail
                go_ret
                refine ⟨by simp, ?_⟩
                rw [HBZ.out]
                exact B5.out.trans (hb8.mono s5)
set_option maxRecDepth 100000 in
theorem flows_any (F n d : Int) (w : World) (hd : -9223372036854775808 ≤ d ∧ d ≤ 9223372036854775807) : Calls Try.prog 5 #[.int .i64 F, .int .i64 n, .int .i64 d] w (TrueBelow w) := by
  by_cases hc : (1 ≤ F ∧ F ≤ 20) ∧ 0 ≤ n ∧ n ≤ 100
  · obtain ⟨⟨h1, h2⟩, h3, h4⟩ := hc
    obtain ⟨F, rfl⟩ : ∃ p : Nat, F = p := ⟨F.toNat, by omega⟩
    obtain ⟨n, rfl⟩ : ∃ p : Nat, n = p := ⟨n.toNat, by omega⟩
    exact flows_in F n d w (by omega) (by omega) (by omega) hd
  · clear hd
    rcases (by omega : F < 1 ∨ (1 ≤ F ∧ 20 < F) ∨ ((1 ≤ F ∧ F ≤ 20) ∧ n < 0) ∨ ((1 ≤ F ∧ F ≤ 20) ∧ 0 ≤ n ∧ 100 < n)) with h | ⟨h, h2⟩ | ⟨⟨h, h2⟩, h3⟩ | ⟨⟨h, h2⟩, h3, h4⟩
    all_goals
      clear hc
      go_enter Try.func5, Try.ntmps5
      go_wp2_with fail
      refine (awake_any _).mono ?_
      rintro e w2 ⟨rfl, hb⟩
      go_wp2_with fail
      go_ret
      exact ⟨rfl, hb⟩
end Go.Proofs.Ytohjnplhmbfjlaa
