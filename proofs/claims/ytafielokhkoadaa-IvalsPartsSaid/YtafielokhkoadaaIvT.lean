/- The law IvalsParts (chapter 5), walked. -/
import Derived.Test.YtafielokhkoadaaIvO
namespace Go.Proofs.Ytafielokhkoadaa
open Go.RowKit

theorem Asc.drop {n : Int} : ∀ {a : Int} {l : List Rg} (i : Nat), Asc n a l → ∃ a', Asc n a' (l.drop i)
  | a, [], i, _ => ⟨a, by rw [List.drop_nil]; trivial⟩
  | a, r :: l, 0, h => ⟨a, h⟩
  | _, r :: l, i + 1, ⟨_, _, _, h4⟩ => Asc.drop (l := l) i h4
theorem asc_apart {n a : Int} {l : List Rg} (h : Asc n a l) (j : Nat) (hj : j + 1 < l.length) : (l[j]'(by omega)).t < l[j + 1].f := by
  obtain ⟨a', h1⟩ := h.drop j
  rw [List.drop_eq_getElem_cons (by omega), List.drop_eq_getElem_cons hj] at h1
  have := h1.2.2.2.1
  omega
/-- one step through the parts -/
theorem part_range {n at' : Int} {l : List Rg} {i : Nat} (h : i < l.length) (ha : Asc n at' (l.drop i)) : at' ≤ l[i].f ∧ l[i].f < l[i].t ∧ l[i].t ≤ n ∧ Asc n l[i].t (l.drop (i + 1)) := by
  rw [List.drop_eq_getElem_cons h] at ha
  obtain ⟨h1, h2, h3, h4⟩ := ha
  exact ⟨h1, h2, h3, h4.weak (by omega)⟩
theorem gaps_at {n at' : Int} {l : List Rg} {i : Nat} (h : i < l.length) : gaps n (l.drop i) at' = if at' < l[i].f then ⟨at', l[i].f⟩ :: gaps n (l.drop (i + 1)) l[i].t else gaps n (l.drop (i + 1)) l[i].t := by
  rw [List.drop_eq_getElem_cons h]; rfl
theorem gaps_len {n : Int} : ∀ (l : List Rg) (a : Int), (gaps n l a).length ≤ l.length + 1
  | [], a => by unfold gaps; split <;> simp
  | r :: l, a => by
    have := gaps_len (n := n) l r.t
    unfold gaps
    split
    · rw [List.length_cons, List.length_cons]; omega
    · rw [List.length_cons]; omega
theorem drop_cons {G r : List Rg} {k : Nat} {x : Rg} (h : G.drop k = x :: r) : ∃ hk : k < G.length, G[k] = x ∧ G.drop (k + 1) = r := by
  have hk : k < G.length := by
    apply Classical.byContradiction
    intro hh
    rw [List.drop_of_length_le (by omega)] at h
    cases h
  rw [List.drop_eq_getElem_cons hk] at h
  injection h with h1 h2
  exact ⟨hk, h1, h2⟩
/-- where the next gap begins -/
theorem gap_next {n at' : Int} {l G : List Rg} {i k : Nat} (ha : Asc n at' (l.drop i)) (hg : G.drop k = gaps n (l.drop i) at') (hi : i ≤ l.length) (hlt : at' < n) (hn : ∀ h : i < l.length, at' < l[i].f) :
    ∃ (hk : k < G.length) (y : Int), G[k] = ⟨at', y⟩ ∧ at' < y ∧ y ≤ n ∧ Asc n y (l.drop i) ∧ G.drop (k + 1) = gaps n (l.drop i) y := by
  rcases Nat.lt_or_eq_of_le hi with h | rfl
  · have h1 := hn h
    rw [gaps_at h, if_pos h1] at hg
    obtain ⟨hk, e1, e2⟩ := drop_cons hg
    obtain ⟨p1, p2, p3, p4⟩ := part_range h ha
    refine ⟨hk, l[i].f, e1, h1, by omega, ?_, ?_⟩
    · rw [List.drop_eq_getElem_cons h] at ha ⊢
      exact ⟨Int.le_refl _, ha.2.1, ha.2.2.1, ha.2.2.2⟩
    · rw [gaps_at h, if_neg (Int.lt_irrefl _), e2]
  · rw [List.drop_length] at hg ha ⊢
    rw [show gaps n [] at' = [⟨at', n⟩] from if_pos hlt] at hg
    obtain ⟨hk, e1, e2⟩ := drop_cons hg
    exact ⟨hk, n, e1, hlt, Int.le_refl _, trivial, by rw [e2]; exact (if_neg (Int.lt_irrefl _)).symm⟩
theorem gap_end {n : Int} {l G : List Rg} {i k : Nat} (ha : Asc n n (l.drop i)) (hg : G.drop k = gaps n (l.drop i) n) (hi : i ≤ l.length) (hk : k ≤ G.length) : i = l.length ∧ k = G.length := by
  rcases Nat.lt_or_eq_of_le hi with h | rfl
  · have := part_range h ha
    omega
  · rw [List.drop_length] at hg
    rw [show gaps n [] n = [] from if_neg (Int.lt_irrefl _)] at hg
    have := congrArg List.length hg
    rw [List.length_drop, List.length_nil] at this
    exact ⟨rfl, by omega⟩
set_option maxRecDepth 100000 in
set_option maxHeartbeats 8000000 in
theorem parts_in (tot : Int) (l : List Rg) (v : Value) (w : World) (h : Rd w 2 v l.length (l.flatMap Rg.row)) (t0 : 0 ≤ tot) (t1 : tot ≤ 100000) (hl : l.length ≤ 60) : Calls Try.prog 4 #[.int .i64 tot, v] w (TrueBelow w) := by
  obtain ⟨v, cp, rfl, h1, h2⟩ := h.form
  have HR := Lib.hid h
  have hli : (l.length : Int) ≤ 60 := by omega
  clear h
  go_enter Try.func4, Try.ntmps4
  go_wp2_with fail
  refine (new_iv tot _ ⟨t0, by omega⟩).mono ?_
  rintro e w1 ⟨rfl, hw, hb⟩
  have HB := Lib.hid hb
  have HW := Lib.hid hw
  clear hw hb
  go_wp2_with fail
  generalize hB : w.heap.size = B at *
  have HBQ := Lib.hid hB
  clear hB
  go_loopw [7] (fun i wr => ∃ (k : Nat) (V : Value) (s : Is), i = .int .i64 k ∧ k ≤ l.length ∧ Iv B B V s wr ∧ Has tot l id k s ∧ Below B w wr) (fun i _ => l.length - (intOf i).toNat)
  case atStart => exact ⟨0, _, _, rfl, Nat.zero_le _, HW.out, has_zero _ _ t0 (by omega), HB.out⟩
  case round =>
    obtain ⟨k, V, s, rfl, hk, hx, hs, hb⟩ := hrel
    have HX := Lib.hid hx
    have HS := Lib.hid hs
    have HBk := Lib.hid hb
    have sk : B ≤ wr.heap.size := by have := hb.size; rw [HBQ.out] at this; exact this
    clear hx hs hb HW HB
    by_cases hlt : k < l.length
    · obtain ⟨b, o, rfl, hbo, cw⟩ := Rd.row rowRg (by decide) (HR.out.below (by rw [HBQ.out]; exact HBk.out)) k hlt
      have hbB : b < B := by
        obtain ⟨_, _, _, he, _, _, hb, _⟩ := HR.out.some (by omega) (by decide)
        cases he; rw [← HBQ.out]; exact hb
      have c0 := cw 0 (.int .i64 l[k].f) rfl
      have c1 := cw 1 (.int .i64 l[k].t) rfl
      rw [Nat.add_zero] at c0
      have HA := Lib.hid (has_add HS.out (show id k < l.length from hlt))
      clear cw
      obtain ⟨xf, HXF⟩ : ∃ xf, Hid (l[k].f = xf) := ⟨_, Lib.hid rfl⟩
      obtain ⟨xt, HXT⟩ : ∃ xt, Hid (l[k].t = xt) := ⟨_, Lib.hid rfl⟩
      rw [HXF.out] at c0
      rw [HXT.out] at c1
      have hnb : ¬ WM B V b := fun hh => by have := (HX.out.lt b hh).1; omega
      go_wp2_with fail
      refine wp_run (M := (WM B V)) (stages [([true, true, true, true, true, true, true, true, true, true, true, false], 11)] [false, false, false, false, false, false, false, false, false, false, false, false]) (by kernel_rfl) (by kernel_rfl) ?_
      refine run_stage rfl ?_
      simp only [pickAt]
      repeat (go_big_quiet_step (fail))
      refine wpQuiet_nil ?_
      refine run_want rfl ?_
      intro A hA
      go_simp
      have hxd := HX.out.keptF (Kept.drew (fun _ => False) wr)
      refine (add_all B B V s xf xt _ hxd HS.out.ok (by have := HS.out.len; omega)).mono ?_
      rintro e w3 ⟨rfl, hp3⟩
      have hb3 := hp3.below hxd (Nat.le_refl _)
      have hk3 : Kept (WM B V) wr.drew w3 := by obtain ⟨_, _, hk, _⟩ := hp3; exact hk
      obtain ⟨V3, hx3, _⟩ := hp3
      have HX3 := Lib.hid hx3
      have HB3 := Lib.hid (HBk.out.drew.trans hb3)
      refine hA _ _ (hk3) ?_
      try simp only [Act.put, List.setIfInBounds_toArray, List.set_cons_zero, List.set_cons_succ]
      clear A hA
      clear hx3 hb3 hk3 hxd
      refine run_last ?_
      simp only [pickAt]
      repeat (go_big_quiet_step (fail))
      refine wpQuiet_nil ?_
      go_wp2_with fail
      go_roundw
      case rel =>
        refine ⟨k + 1, V3, _, by go_num, by omega, HX3.out, ?_, HB3.out⟩
        have h := HA.out
        simp only [id, HXF.out, HXT.out] at h
        exact h
      case measure => simp [intOf]; omega
    · obtain rfl : k = l.length := by omega
      have hlen : s.l.length ≤ 60 := by have := HS.out.len; omega
      have htt := HS.out.tt
      have hasc : Asc tot 0 s.l := by have := HS.out.ok.asc; rwa [htt] at this
      have HTT := Lib.hid htt
      have HASC := Lib.hid hasc
      clear htt hasc
      go_wp2_with fail
      refine (ranges_iv B B V s _ HX.out (by omega)).mono ?_
      rintro e w3 ⟨v3, rfl, hv3, hb3⟩
      have HX3 := Lib.hid (HX.out.below hb3)
      have HV3 := Lib.hid hv3
      have HB3 := Lib.hid (HBk.out.trans (hb3.mono sk))
      have sb3 := Nat.le_trans sk hb3.size
      clear hv3 hb3
      go_wp2_with fail
      refine (gaps_iv B B V s tot 1073741824 _ HX3.out (by omega)).mono ?_
      rw [HTT.out, Int.min_self, gp_gaps HASC.out (by simp; omega), List.nil_append]
      rintro e w4 ⟨v4, rfl, hv4, hb4⟩
      have HX4 := Lib.hid (HX3.out.below hb4)
      have HB4 := Lib.hid (HB3.out.trans (hb4.mono sb3))
      have sb4 := Nat.le_trans sb3 hb4.size
      have hv34 := own_kept HV3.out (Kept.of_below (M := fun _ => False) hb4) (fun _ _ h => h)
      have hgl := gaps_len (n := tot) s.l 0
      obtain ⟨G, HG⟩ : ∃ G, Hid (gaps tot s.l 0 = G) := ⟨_, Lib.hid rfl⟩
      rw [HG.out] at hv4 hgl
      obtain ⟨a3, k3, rfl, _, _⟩ := (Rd.of_own hv34).form
      obtain ⟨a4, k4, rfl, _, _⟩ := (Rd.of_own hv4).form
      have HRA := Lib.hid (Rd.of_own hv34)
      have HRG := Lib.hid (Rd.of_own hv4)
      clear hb4 hv34 hv4 HV3
      go_wp2_with fail
      go_loopw [10, 11, 12, 13] (fun a10 a11 a12 a13 wq => ∃ (at' : Int) (i k : Nat), a10 = .int .i64 at' ∧ a11 = .int .i64 (total (s.l.take i)) ∧ a12 = .int .i64 i ∧ a13 = .int .i64 k ∧ i ≤ s.l.length ∧ k ≤ G.length ∧ 0 ≤ at' ∧ at' ≤ tot ∧ Hid (Asc tot at' (s.l.drop i)) ∧ Hid (G.drop k = gaps tot (s.l.drop i) at') ∧ w4 = wq) (fun a _ _ _ _ => (tot - intOf a).toNat)
      case atStart => exact ⟨0, 0, 0, rfl, rfl, rfl, rfl, Nat.zero_le _, Nat.zero_le _, Int.le_refl _, t0, HASC, Lib.hid HG.out.symm, rfl⟩
      case round =>
        obtain ⟨at', i, k, rfl, rfl, rfl, rfl, hi, hkG, ha0, ha1, HAS, HGD, rfl⟩ := hrel
        rcases (by omega : tot = at' ∨ at' < tot) with rfl | halt
        · obtain ⟨rfl, rfl⟩ := gap_end HAS.out HGD.out hi hkG
          rw [List.take_length]
          clear HAS HGD HG
          go_wp2_with fail
          go_loopw [14] (fun i wr => ∃ (j q : Nat), i = .int .i64 q ∧ q = j + 1 ∧ j ≤ s.l.length ∧ Kept (fun _ => False) w4 wr) (fun i _ => s.l.length + 1 - (intOf i).toNat)
          case atStart => exact ⟨0, 1, rfl, rfl, Nat.zero_le _, Kept.refl _ _⟩
          case round =>
            obtain ⟨j, q, rfl, hjq, hj, hkp⟩ := hrel
            have HJQ := Lib.hid hjq
            have HKP := Lib.hid hkp
            rcases (by omega : q < s.l.length ∨ s.l.length ≤ q) with hlt | hge
            · have hgap := asc_apart HASC.out j (by omega)
              obtain ⟨g, o, rfl, hg, cwa⟩ := Rd.row rowRg (by decide) (HRA.out.keptF hkp) q hlt
              obtain ⟨g', o', he, hg', cwb⟩ := Rd.row rowRg (by decide) (HRA.out.keptF hkp) j (by omega)
              cases he
              have c0 := cwa 0 (.int .i64 s.l[q].f) rfl
              have d1 := cwb 1 (.int .i64 s.l[j].t) rfl
              rw [Nat.add_zero] at c0
              have hgap' : (s.l[j]'(by omega)).t < s.l[q].f := by simp only [hjq]; exact hgap
              have hjl : j < s.l.length := by omega
              have hjm : (j : Int) < s.l.length := by omega
              have hq1 : (q : Int) - 1 = (j : Int) := by omega
              have hqx : IntKind.i64.wrap ((q : Int) - 1) = (j : Int) := by rw [IntKind.wrap_i64]; omega
              generalize s.l[q].f = y at *
              generalize s.l[j].t = y2 at *
              have hd : decide (y ≤ y2) = false := decide_eq_false (by omega)
              clear cwa cwb hgap hkp hjq
              go_wp2_with fail
              refine wp_region_quiet_lit (by kernel_rfl) (by kernel_rfl) ?_
              try simp only [List.append]
              repeat (first | go_big_quiet_step (fail) | quiet_step (fail))
              refine wpQuiet_nil ?_
              intro W hW
              have hkW := kept_ex hW
              have HKW := Lib.hid (HKP.out.trans hkW)
              clear hkW hW hq1 hqx
              go_wp2_with fail
              go_roundw
              case rel => exact ⟨q, q + 1, by go_num, rfl, by omega, HKW.out⟩
              case measure => simp [intOf]; omega
            · have hx5 := HX4.out.keptF hkp
              have HB5 := Lib.hid (HB4.out.trans (hkp.belowAt sb4 (fun _ h => h.elim)))
              have sb5 := Nat.le_trans sb4 hkp.size
              have HX5 := Lib.hid hx5
              have hdq : decide (q < s.l.length) = false := decide_eq_false (by omega)
              clear hx5 hkp hjq hge
              go_wp2_with fail
              refine (sum_iv B B V s _ HX5.out HS.out.ok (by omega)).mono ?_
              rintro e w6 ⟨rfl, hb6⟩
              have HX6 := Lib.hid (HX5.out.below hb6)
              have HB6 := Lib.hid (HB5.out.trans (hb6.mono sb5))
              have sb6 := Nat.le_trans sb5 hb6.size
              clear hb6
              go_wp2_with fail
              refine (full_iv B B V s _ HX6.out HS.out.ok (by omega)).mono ?_
              rw [HTT.out]
              rintro e w7 ⟨rfl, hb7⟩
              have HB7 := Lib.hid (HB6.out.trans (hb7.mono sb6))
              have sb7 := Nat.le_trans sb6 hb7.size
              clear hb7
              go_wp2_with fail
              go_wp2_with fail
              refine (awake_any _).mono ?_
              rintro e w8 ⟨rfl, hb8⟩
              go_wp2_with fail
              go_ret
              refine ⟨by simp, ?_⟩
              rw [HBQ.out]
              exact HB7.out.trans (hb8.mono sb7)
        · by_cases hc : ∃ h : i < s.l.length, s.l[i].f = at'
          · obtain ⟨hil, hif⟩ := hc
            obtain ⟨p1, p2, p3, p4⟩ := part_range hil HAS.out
            have hg2 := HGD.out
            rw [gaps_at hil, if_neg (by omega)] at hg2
            have HP4 := Lib.hid p4
            have HG2 := Lib.hid hg2
            have hts := total_step hil
            have HTS := Lib.hid hts
            have ht1 := total_le (HASC.out.take i)
            have ht2 := total_le (HASC.out.take (i + 1))
            obtain ⟨g, o, rfl, hg, cwa⟩ := Rd.row rowRg (by decide) HRA.out i hil
            have c0 := cwa 0 (.int .i64 s.l[i].f) rfl
            have c1 := cwa 1 (.int .i64 s.l[i].t) rfl
            rw [Nat.add_zero] at c0
            rw [hif] at c0 hts p2
            generalize s.l[i].t = y at *
            obtain ⟨S, HSS⟩ : ∃ S, Hid (total (s.l.take i) = S) := ⟨_, Lib.hid rfl⟩
            rw [HSS.out] at ht1 hts ⊢
            have hw1 : IntKind.i64.wrap (S + y) = S + y := by rw [IntKind.wrap_i64]; omega
            have hw2 : IntKind.i64.wrap (S + y - at') = S + y - at' := by rw [IntKind.wrap_i64]; omega
            have HTS' : Hid (total (s.l.take (i + 1)) = S + y - at') := Lib.hid (by omega)
            have hbe : (at' == at') = true := by simp
            clear cwa p4 hg2 hif hts ht1 ht2 p1
            go_wp2_with fail
            go_roundw
            case rel => exact ⟨y, i + 1, k, rfl, by rw [HTS'.out], by go_num, rfl, by omega, hkG, by omega, by omega, HP4, HG2, trivial⟩
            case measure => simp [intOf]; omega
          · obtain ⟨hk, y, hy, hy1, hy2, hyA, hyG⟩ := gap_next HAS.out HGD.out hi halt (fun h => by
              have := part_range h HAS.out
              apply Classical.byContradiction; intro hh; exact hc ⟨h, by omega⟩)
            have HYA := Lib.hid hyA
            have HYG := Lib.hid hyG
            obtain ⟨g, o, rfl, hg, cwa⟩ := Rd.row rowRg (by decide) HRG.out k hk
            rw [hy] at cwa
            have c0 := cwa 0 (.int .i64 at') rfl
            have c1 := cwa 1 (.int .i64 y) rfl
            rw [Nat.add_zero] at c0
            obtain ⟨S, HSS⟩ : ∃ S, Hid (total (s.l.take i) = S) := ⟨_, Lib.hid rfl⟩
            rw [HSS.out]
            have hbe : (at' == at') = true := by simp
            clear cwa hyA hyG hy
            rcases Nat.lt_or_eq_of_le hi with hil | hil
            iterate 2
              · first
                  | (have hil' : i < s.l.length := hil
                     have hne : (s.l[i].f == at') = false := beq_eq_false_iff_ne.2 (fun hh => hc ⟨hil', hh⟩)
                     obtain ⟨g2, o2, rfl, hg2, cwb⟩ := Rd.row rowRg (by decide) HRA.out i hil'
                     have d0 := cwb 0 (.int .i64 s.l[i].f) rfl
                     rw [Nat.add_zero] at d0
                     generalize s.l[i].f = z at *
                     clear cwb)
                  | (have hdi : decide (i < s.l.length) = false := decide_eq_false (by omega)
                     have HIL := Lib.hid hil
                     clear hil)
                clear hc
                go_wp2_with fail
                go_roundw
                case rel => exact ⟨y, i, k + 1, rfl, by rw [HSS.out], rfl, by go_num, hi, by omega, by omega, by omega, HYA, HYG, trivial⟩
                case measure => simp [intOf]; omega
set_option maxRecDepth 100000 in
theorem parts_any (tot : Int) (l : List Rg) (v : Value) (w : World) (h : Rd w 2 v l.length (l.flatMap Rg.row)) : Calls Try.prog 4 #[.int .i64 tot, v] w (TrueBelow w) := by
  by_cases hc : 0 ≤ tot ∧ tot ≤ 100000 ∧ l.length ≤ 60
  · exact parts_in tot l v w h hc.1 hc.2.1 hc.2.2
  · obtain ⟨v, cp, rfl, h1, h2⟩ := h.form
    clear h
    rcases (by omega : tot < 0 ∨ (0 ≤ tot ∧ 100000 < tot) ∨ (0 ≤ tot ∧ tot ≤ 100000 ∧ 60 < l.length)) with h | ⟨h, h3⟩ | ⟨h, h3, h4⟩
    all_goals
      clear hc
      go_enter Try.func4, Try.ntmps4
      go_wp2_with fail
      refine (awake_any _).mono ?_
      rintro e w2 ⟨rfl, hb⟩
      go_wp2_with fail
      go_ret
      exact ⟨rfl, hb⟩
end Go.Proofs.Ytafielokhkoadaa
