/- The law PullsFair (chapter 18), walked. -/
import Derived.Test.YtohjnplhmbfjlaaPuN
import Derived.Test.YtohjnplhmbfjlaaPuY
namespace Go.Proofs.Ytohjnplhmbfjlaa
open Go.RowKit

abbrev TI : TypeId := 3
theorem info_int : (Try.prog.info? TI).map (fun i => (i.zero, i.size, i.bytes)) = some (some (.int .i64 0), 1, 8) := by kernel_rfl
def gcells (P i : Nat) : Array Value := ((List.range P).map (fun p => Value.int .i64 (got P i p))).toArray
theorem made_ints (P : Nat) : madeCells #[Value.int .i64 0] P = gcells P 0 := by
  unfold gcells
  apply Array.ext'
  simp only [got_zero]
  simp [madeCells, Nat.mod_one, List.map_const']
theorem g_get {P i p : Nat} (h : p < P) : (gcells P i)[p]? = some (.int .i64 (got P i p)) := by
  unfold gcells
  simp [h]
theorem g_set {P i : Nat} (h : 1 ≤ P) : (gcells P i).setIfInBounds (i % P) (.int .i64 ((got P i (i % P) : Nat) + 1)) = gcells P (i + 1) := by
  unfold gcells
  apply Array.ext'
  rw [Array.toList_setIfInBounds]
  refine List.ext_getElem? fun q => ?_
  rw [List.getElem?_set]
  by_cases hq : i % P = q
  · subst hq
    rw [if_pos rfl]
    have hm := Nat.mod_lt i h
    simp [hm, got_step hm]
  · rw [if_neg hq]
    simp only [List.getElem?_map]
    by_cases h2 : q < P
    · simp [h2, got_step h2, show ¬ q = i % P from fun e => hq e.symm]
    · rw [List.getElem?_eq_none (by simp; omega)]
      simp
set_option maxRecDepth 100000 in
set_option maxHeartbeats 8000000 in
theorem fair_in (P W n : Nat) (w : World) (h1 : 1 ≤ P) (h8 : P ≤ 8) (w1 : 1 ≤ W) (w100 : W ≤ 100) (hn : n ≤ P * W) : Calls Try.prog 3 #[.int .i64 P, .int .i64 W, .int .i64 n] w (TrueBelow w) := by
  obtain ⟨PW, HPW⟩ : ∃ PW, Hid (P * W = PW) := ⟨_, Lib.hid rfl⟩
  have hpw : PW ≤ 800 := by rw [← HPW.out]; exact Nat.mul_le_mul h8 w100
  have hwr : IntKind.i64.wrap ((P : Int) * (W : Int)) = (PW : Int) := by
    have : (P : Int) * (W : Int) = (PW : Int) := by rw [← HPW.out]; simp
    rw [this, IntKind.wrap_i64]; omega
  have HN := Lib.hid hn
  rw [HPW.out] at hn
  have hni : (n : Int) ≤ PW := by omega
  go_enter Try.func3, Try.ntmps3
  go_wp2_with fail
  refine (new_pu 10 w (by decide)).mono ?_
  rintro e wa ⟨rfl, hp1, hb1⟩
  rw [wst_empty W] at hp1
  have HP1 := Lib.hid hp1
  have B1 := Lib.hid hb1
  have s1 := hb1.size
  obtain ⟨b, HBZ⟩ : ∃ b, Hid (w.heap.size = b) := ⟨_, Lib.hid rfl⟩
  rw [HBZ.out] at HP1 B1 s1 ⊢
  have O1 : Hid ((Wst W 0).ok 0) := Lib.hid (by rw [← wst_empty W]; exact empty_ok (by decide) (by decide))
  clear hp1 hb1
  go_wp2_with fail
  go_loopw [9] (fun i wr => ∃ (p : Nat) (V : Nat → Value), i = .int .i64 p ∧ p ≤ P ∧ Pu b b V (Wst W p) wr ∧ Below b w wr ∧ Hid ((Wst W p).ok 0)) (fun i _ => P - (intOf i).toNat)
  case atStart => exact ⟨0, _, rfl, Nat.zero_le _, HP1.out, B1.out, O1⟩
  case round =>
    obtain ⟨p, V, rfl, hp, hpu, hb, HO⟩ := hrel
    have HPU := Lib.hid hpu
    have HB := Lib.hid hb
    clear hpu hb O1 HP1 B1
    by_cases hlt : p < P
    · have hw5 : IntKind.u64.wrap (IntKind.u64.wrap (p : Int) + 5) = (p : Int) + 5 := by simp [IntKind.wrap_u64]; omega
      have hw6 : IntKind.u64.wrap (p : Int) = (p : Int) := by simp [IntKind.wrap_u64]; omega
      go_wp2_with fail
      have hq : okWant (p : Int) ((p : Int) + 5) W := by unfold okWant; omega
      have hpf : (Wst W p).L p = [] := wst_none
      refine (want_pu b b V (Wst W p) 0 p ((p : Int) + 5) W _ HPU.out HO.out hq).mono ?_
      rintro e w3 ⟨i, f, hf, rfl, hpo⟩
      have O2 := want_ok (n := (W : Int)) HO.out (Int.le_refl 0) (show p < 8 by omega) hq hf
      rw [hpf] at hf
      obtain ⟨rfl, rfl⟩ := fnd_nil hf
      have e2 := wst_step (W := W) (p := p) (by omega)
      rw [e2] at hpo O2 ⊢
      obtain ⟨V2, hp2, hb2⟩ := hpo.opn HPU.out
      have HP2 := Lib.hid hp2
      have B2 := Lib.hid (HB.out.trans hb2)
      have HO2 := Lib.hid O2
      clear hpo hp2 hb2 e2 hf O2
      go_wp2_with fail
      go_roundw
      case rel => exact ⟨p + 1, V2, by go_num, by omega, HP2.out, B2.out, HO2⟩
      case measure => simp [intOf]; omega
    · obtain rfl : P = p := by omega
      rw [fst_zero P W] at HPU HO
      obtain ⟨i0, hi0, hz0, hs0, hb0⟩ := info_parts info_int
      have sb := HB.out.size
      rw [HBZ.out] at sb
      have lbw := HPU.out.ob.lt
      have hZ0 : ¬ PM b V wr.heap.size := fun hh => by have := (HPU.out.lt _ hh).2; omega
      have HP3 := Lib.hid (HPU.out.keptF ((Kept.refl (fun _ => False) wr).alloc (.cells (madeCells #[Value.int .i64 0] P) TI)))
      have OZ := Lib.hid (Ob.cast (Ob.new wr (madeCells #[Value.int .i64 0] P) TI) (made_ints P))
      have B3 := Lib.hid (HB.out.alloc (by omega) (.cells (madeCells #[Value.int .i64 0] P) TI))
      have HS3 := Lib.hid (wst_sum W P h8)
      rw [fst_zero P W] at HS3
      go_wp2_with (refine wpList_make_row _ rfl (.tmp 66) (.tmp 66) _ rfl TI i0 (.int .i64 0) (by rfl) hi0 hz0 hs0 rfl .i64 .i64 P rfl rfl (by rw [hb0]; omega) (by omega) ?_)
      generalize wr.alloc (.cells (madeCells #[Value.int .i64 0] P) TI) = w3 at *
      generalize wr.heap.size = Z at *
      clear HPU HB hi0 hz0 hs0 hb0
      go_loopw [11] (fun s11 wr => ∃ (i : Nat) (V : Nat → Value), s11 = .int .i64 i ∧ i ≤ n ∧ Pu b b V (Fst P W i) wr ∧ Ob wr Z (gcells P i) TI ∧ ¬ PM b V Z ∧ Below b w wr ∧ Hid ((Fst P W i).ok i) ∧ Hid (sumTo (Fst P W i).L 8 = PW - i)) (fun a _ => n - (intOf a).toNat)
      case atStart => exact ⟨0, V, rfl, Nat.zero_le _, HP3.out, OZ.out, hZ0, B3.out, HO, Lib.hid (by rw [HS3.out, ← HPW.out]; simp)⟩
      case round =>
        obtain ⟨i, V1, rfl, hi, hpu, hoz, hnz, hb, HOI, HSI⟩ := hrel
        have HPI := Lib.hid hpu
        have HZI := Lib.hid hoz
        have HBI := Lib.hid hb
        have HNZ := Lib.hid hnz
        clear hpu hoz hnz hb HP3 OZ B3 hZ0 HO HS3
        by_cases hlt : i < n
        · have hin : i < P * W := by have := HN.out; omega
          obtain ⟨k0, hk0, ht0, hid0, hpk0⟩ := fst_next h1 h8 hin
          have hm := Nat.mod_lt i h1
          have hL : (Fst P W i).L (i % P) = [⟨(i % P : Nat) + 5, W - got P i (i % P), got P i (i % P)⟩] := if_pos hm
          have hg : got P i (i % P) = i / P := by unfold got; rw [if_neg (Nat.lt_irrefl _)]; omega
          have HK := Lib.hid (And.intro ht0 (And.intro hid0 (And.intro hpk0 (And.intro hL hg))))
          clear ht0 hid0 hpk0 hL hg
          go_wp2_with fail
          refine (next_pu b b V1 (Fst P W i) i _ HPI.out HOI.out (by omega)).mono ?_
          intro e w5 hnx
          rcases hnx with ⟨h, _⟩ | ⟨k, i', x, h3, h4, h5, h6, rfl, h7⟩
          · have := h k0 hk0
            unfold Ps.idle at this
            rw [HK.out.1, HK.out.2.2.1] at this
            cases this
          have hpk1 : pick ((Fst P W i).L ((Fst P W i).turn k0)) ((Fst P W i).Z ((Fst P W i).turn k0)) = some 0 := by rw [HK.out.1]; exact HK.out.2.2.1
          obtain ⟨rfl, rfl⟩ := next_is HK.out.2.1 hpk1 h4 h5
          rw [HK.out.1] at h5 h6 h7 ⊢
          have O2 := Lib.hid (serve_ok HOI.out (by omega) h5 h6)
          have S2 := Lib.hid (serve_sum (show i % P < 8 by omega) h6)
          rw [HK.out.2.2.2.1, HK.out.2.2.2.2] at h6
          obtain rfl : x = ⟨(i % P : Nat) + 5, W - (i / P : Nat), (i / P : Nat)⟩ := by injection h6 with h6; exact h6.symm
          rw [fst_step h1] at h7 O2 S2
          rw [HSI.out] at S2
          obtain ⟨V5, hp5, hk5, hn5⟩ := h7
          have B5 := Lib.hid (HBI.out.trans (hk5.belowAt (Nat.le_of_lt (Nat.lt_of_le_of_lt HPI.out.base HPI.out.ob.lt)) (fun x hx => (HPI.out.lt x hx).1)))
          have OZ5 := Lib.hid (HZI.out.kept hk5 HNZ.out)
          have NZ5 : Hid (¬ PM b V5 Z) := Lib.hid (fun hh => by
            rcases hn5 Z hh with h | h
            · exact HNZ.out h
            · have := HZI.out.lt; omega)
          have HP5 := Lib.hid hp5
          have hgm := HK.out.2.2.2.2
          obtain ⟨m, HM⟩ : ∃ m, Hid (i % P = m) := ⟨_, Lib.hid rfl⟩
          obtain ⟨r, HR⟩ : ∃ r, Hid (i / P = r) := ⟨_, Lib.hid rfl⟩
          obtain ⟨lz, cz, fz⟩ := OZ5.out.blk
          have cm : w5.cell? ⟨Z, m, none⟩ = some (.int .i64 r) := by rw [cz, g_get (by rw [← HM.out]; exact hm), ← HM.out, hgm, HR.out]
          have hgs := g_set (P := P) (i := i) h1
          rw [hgm, HM.out, HR.out] at hgs
          have HGS := Lib.hid hgs
          have hg2 : got P (i + 1) m = r + 1 := by rw [got_step (by rw [← HM.out]; exact hm), if_pos HM.out.symm, ← HM.out, hgm, HR.out]
          have HG2 := Lib.hid hg2
          have hr1 : r ≤ 100 := by
            rw [← HR.out]
            have := Nat.div_lt_of_lt_mul hin
            omega
          rw [HM.out, HR.out]
          rw [HM.out] at hm
          have hmi : (m : Int) < P := by omega
          have hbZ : b ≠ Z := fun e => NZ5.out (.inl e.symm)
          clear cz hgm hgs hg2 hk5 hn5 hp5 h3 h4 h5 h6 hpk1
          have hw5 : IntKind.u64.wrap (IntKind.u64.wrap (m : Int) + 5) = (m : Int) + 5 := by simp [IntKind.wrap_u64]; omega
          have hw6 : IntKind.u64.wrap (m : Int) = (m : Int) := by simp [IntKind.wrap_u64]; omega
          go_upto_region 19 with fail
          have OZ6 := Lib.hid (Ob.cast (OZ5.out.set m (.int .i64 ((r : Nat) + 1))) HGS.out)
          have HK6 : Kept (Only Z) w5 (w5.setCell ⟨Z, m, none⟩ (.int .i64 ((r : Nat) + 1))) := (Kept.refl (Only Z) w5).setO
          have HP6 := Lib.hid (HP5.out.kept HK6 (fun x hx hh => NZ5.out (by rw [← show x = Z from hh]; exact hx)))
          have B6 := Lib.hid (B5.out.setCell (p := ⟨Z, m, none⟩) sb (.int .i64 ((r : Nat) + 1)))
          clear HK6
          generalize w5.setCell ⟨Z, m, none⟩ (.int .i64 ((r : Nat) + 1)) = w6 at *
          clear cm lz fz OZ5 HP5 B5
          obtain ⟨lz, cz, fz⟩ := OZ6.out.blk
          have cm : w6.cell? ⟨Z, m, none⟩ = some (.int .i64 ((r : Nat) + 1)) := by rw [cz, g_get hm, HG2.out]; rfl
          clear cz
          go_wp2_with fail
          go_loopw [16] (fun s wi => ∃ k : Nat, s = .int .i64 k ∧ k ≤ P ∧ Kept (fun _ => False) w6 wi) (fun a _ => P - (intOf a).toNat)
          case atStart => exact ⟨0, rfl, Nat.zero_le _, Kept.refl _ _⟩
          case round =>
            obtain ⟨k, rfl, hk, hkp⟩ := hrel
            rename World => wi
            have HKP := Lib.hid hkp
            clear hkp cm lz fz
            by_cases hlk : k < P
            · obtain ⟨lz, cz, fz⟩ := (OZ6.out.kept HKP.out id).blk
              have cm : wi.cell? ⟨Z, m, none⟩ = some (.int .i64 ((r : Nat) + 1)) := by rw [cz, g_get hm, HG2.out]; rfl
              have ck : wi.cell? ⟨Z, k, none⟩ = some (.int .i64 (got P (i + 1) k)) := by rw [cz, g_get hlk]
              have hgl : got P (i + 1) m ≤ got P (i + 1) k + 1 := got_le
              have hgl2 : got P (i + 1) k ≤ got P (i + 1) m + 1 := got_le
              rw [HG2.out] at hgl hgl2
              clear cz
              generalize got P (i + 1) k = y at *
              have hdd : decide ((y : Int) + 1 < (r : Int) + 1) = false := decide_eq_false (by omega)
              go_wp2_with fail
              refine wp_region_quiet_lit (by kernel_rfl) (by kernel_rfl) ?_
              try simp only [List.append]
              repeat (first | go_big_quiet_step (fail) | quiet_step (fail))
              refine wpQuiet_nil ?_
              intro W1 hW1
              have HK1 := Lib.hid (HKP.out.trans (kept_ex hW1))
              clear hW1
              go_wp2_with fail
              go_roundw
              case rel => exact ⟨k + 1, by go_num, by omega, HK1.out⟩
              case measure => simp [intOf]; omega
            · obtain rfl : P = k := by omega
              go_wp2_with fail
              go_roundw
              case rel => exact ⟨i + 1, V5, by go_num, by omega, HP6.out.keptF HKP.out, OZ6.out.kept HKP.out id, NZ5.out, B6.out.trans (HKP.out.below.mono (by rw [← HBZ.out]; exact B6.out.size)), O2, Lib.hid (by rw [S2.out]; omega)⟩
              case measure => simp [intOf]; omega
        · obtain rfl : i = n := by omega
          go_wp2_with fail
          refine (len_pu b b V1 _ _ _ HPI.out HOI.out).mono ?_
          rw [HSI.out]
          rintro e w7 ⟨rfl, hb7⟩
          have si := HBI.out.size
          have B7 := Lib.hid (HBI.out.trans (hb7.mono (Nat.le_of_lt (Nat.lt_of_le_of_lt HPI.out.base HPI.out.ob.lt))))
          clear hb7
          go_wp2_with fail
          refine (awake_any _).mono ?_
          rintro e w8 ⟨rfl, hb8⟩
          go_wp2_with fail
          go_ret
          refine ⟨by simp, ?_⟩
          rw [HBZ.out]
          exact B7.out.trans (hb8.mono (by rw [← HBZ.out]; exact B7.out.size))
set_option maxRecDepth 100000 in
theorem fair_any (P W n : Int) (w : World) (_ : n ≤ 9223372036854775807) : Calls Try.prog 3 #[.int .i64 P, .int .i64 W, .int .i64 n] w (TrueBelow w) := by
  by_cases hc : (1 ≤ P ∧ P ≤ 8) ∧ (1 ≤ W ∧ W ≤ 100)
  · obtain ⟨⟨h1, h2⟩, h3, h4⟩ := hc
    obtain ⟨P, rfl⟩ : ∃ p : Nat, P = p := ⟨P.toNat, by omega⟩
    obtain ⟨W, rfl⟩ : ∃ p : Nat, W = p := ⟨W.toNat, by omega⟩
    obtain ⟨PW, HPW⟩ : ∃ PW, Hid (P * W = PW) := ⟨_, Lib.hid rfl⟩
    have hpw : PW ≤ 800 := by rw [← HPW.out]; exact Nat.mul_le_mul (by omega : P ≤ 8) (by omega : W ≤ 100)
    by_cases hn : 0 ≤ n ∧ n ≤ PW
    · obtain ⟨n, rfl⟩ : ∃ p : Nat, n = p := ⟨n.toNat, by omega⟩
      exact fair_in P W n w (by omega) (by omega) (by omega) (by omega) (by rw [HPW.out]; omega)
    · have hwr : IntKind.i64.wrap ((P : Int) * (W : Int)) = (PW : Int) := by
        have : (P : Int) * (W : Int) = (PW : Int) := by rw [← HPW.out]; simp
        rw [this, IntKind.wrap_i64]; omega
      rcases (by omega : n < 0 ∨ (0 ≤ n ∧ PW < n)) with h | ⟨h, h5⟩
      all_goals
        clear hn
        go_enter Try.func3, Try.ntmps3
        go_wp2_with fail
        refine (awake_any _).mono ?_
        rintro e w2 ⟨rfl, hb⟩
        go_wp2_with fail
        go_ret
        exact ⟨rfl, hb⟩
  · rcases (by omega : P < 1 ∨ (1 ≤ P ∧ 8 < P) ∨ ((1 ≤ P ∧ P ≤ 8) ∧ W < 1) ∨ ((1 ≤ P ∧ P ≤ 8) ∧ 1 ≤ W ∧ 100 < W)) with h | ⟨h, h2⟩ | ⟨⟨h, h2⟩, h3⟩ | ⟨⟨h, h2⟩, h3, h4⟩
    all_goals
      clear hc
      go_enter Try.func3, Try.ntmps3
      go_wp2_with fail
      refine (awake_any _).mono ?_
      rintro e w2 ⟨rfl, hb⟩
      go_wp2_with fail
      go_ret
      exact ⟨rfl, hb⟩
end Go.Proofs.Ytohjnplhmbfjlaa
