/- FabricArrives: each frame arrives at its host, as it was sent, once, in order. -/
import Derived.Test.YtoihhidoafgoaaaMK
import Derived.Test.YtoihhidoafgoaaaMJ
import Derived.Test.YtoihhidoafgoaaaAlike
import Derived.Test.YtoihhidoafgoaaaFrame
import Derived.Laws.MakeOwn
namespace Go.Proofs.Ytoihhidoafgoaaa
open Go.RowKit

theorem fA_ok {H M i : Nat} (hs : 2 ≤ H ∧ H ≤ 8) (hi : i ≤ 40) {a : Option Addr} {c : Nat} : okF (It.fr { fA H M i with da := a, dc := c }) := by
  have h1 := srcA_lt (M := M) (i := i) hs.1
  have h2 := dstA_lt (M := M) (i := i) hs.1
  refine (okF_iff _ (by show (0 : Int) ≤ (i : Int); omega)).2 ?_
  show (1 : Int) ≤ 1 ∧ (1 : Int) ≤ 12 ∧ 0 ≤ ((srcA H M i : Nat) : Int) ∧ ((srcA H M i : Nat) : Int) ≤ 7 ∧ 0 ≤ ((dstA H M i : Nat) : Int) ∧ ((dstA H M i : Nat) : Int) ≤ 7 ∧ (0 : Int) ≤ 0 ∧ (0 : Int) ≤ 7 ∧ (i : Int) ≤ 1152921504606846976 ∧ (0 : Int) ≤ 0 ∧ (0 : Int) ≤ 1073741824 ∧ (0 : Int) ≤ 3 ∧ (3 : Int) ≤ 1073741824 ∧ (0 : Int) ≤ 3 ∧ (3 : Int) ≤ 1500 ∧ (0 : Int) ≤ 0 ∧ (0 : Int) ≤ 1073741824 ∧ ((1 : Int) = 1 ∨ (1 : Int) = 7 → (0 : Int) + 3 ≤ 3) ∧ ((1 : Int) = 1 → ((3 : Nat) : Int) = 3) ∧ ((1 : Int) ≠ 1 → ((3 : Nat) : Int) = 0)
  refine ⟨by decide, by decide, by omega, by omega, by omega, by omega, by decide, by decide, by omega, by decide, by decide, by decide, by decide, by decide, by decide, by decide, by decide, fun _ => by decide, fun _ => by decide, fun h => absurd rfl h⟩
set_option maxRecDepth 100000 in
set_option maxHeartbeats 4000000 in
theorem arrives_in (H S n : Nat) (mix : Int) (w : World) (hs : Hs H S) (hn : n ≤ 40) : Calls Try.prog 3 #[.int .i64 H, .int .i64 S, .int .i64 n, .int .i64 mix] w (TrueBelow w) := by
  obtain ⟨hH2, hH8⟩ := hs.h
  obtain ⟨hS1, hS4⟩ := hs.s
  have HS := Lib.hid hs
  have HNP := Lib.hid (nP_ls H S)
  have hnp48 := hs.np
  have e1 := Int.emod_nonneg mix (show (1000 : Int) ≠ 0 by decide)
  have e2 := Int.emod_lt_of_pos mix (show (0 : Int) < 1000 by decide)
  obtain ⟨M, hM⟩ : ∃ M : Nat, mix % 1000 = M := ⟨(mix % 1000).toNat, by omega⟩
  have hM1000 : M < 1000 := by omega
  have HM := Lib.hid hM
  clear hs e1 e2 hM
  go_enter Try.func3, Try.ntmps3
  go_wp2_with fail
  refine (fi_new H S 1048576 50 true w HS.out (by decide) (by decide)).mono ?_
  rintro e w1 ⟨f, rfl, h1⟩
  have F1 := Lib.hid h1
  clear h1
  go_wp2_with fail
  refine (round_any mix 1000 w1 (by decide) (by decide)).mono ?_
  rintro e w2 ⟨rfl, rfl⟩
  rw [HM.out]
  obtain ⟨i0, hi0, hz0, hs0, hb0⟩ := info_parts info_in
  go_wp2_with (refine wpList_make_row _ rfl (.const (.int .i64 8)) (.const (.int .i64 8)) _ rfl TI i0 (.int .i64 0) (by rfl) hi0 hz0 hs0 rfl .i64 .i64 8 rfl rfl (by rw [hb0]; decide) (by decide) ?_)
  have OW := Lib.hid (Ob.cast (Ob.new w1 (madeCells #[.int .i64 0] 8) TI) (made_icells 8))
  have F2 := Lib.hid (F1.out.below ((Below.refl _ w1).alloc (Nat.le_refl _) (.cells (madeCells #[.int .i64 0] 8) TI)))
  have hle1 := F1.out.bel.size
  clear hi0 hz0 hs0 hb0 F1
  obtain ⟨wb, hwb⟩ : ∃ wb, Hid (w1.heap.size = wb) := ⟨_, Lib.hid rfl⟩
  have HWB : Hid (w.heap.size ≤ wb) := Lib.hid (by rw [← hwb.out]; exact hle1)
  rw [hwb.out] at OW ⊢
  clear hle1
  generalize w1.alloc (.cells (madeCells #[.int .i64 0] 8) TI) = w2 at *
  have OW0 : Hid (Ob w2 wb (icells 8 fun b => (cnt H M b 0 : Nat)) TI) := Lib.hid (OW.out.cast (icells_congr fun k _ => rfl))
  clear OW
  go_loopw [12, 13, 14, 15, 16] (fun i _ _ _ _ wr => ∃ (j : Nat) (Q : Nat → List It), j ≤ n ∧ i = .int .i64 j ∧ Hid (Fi f w.heap.size H S Q (fun _ => []) 1048576 0 (2 * j) w wr) ∧ Hid (Ar H S M j Q (fun _ => [])) ∧ Hid (∀ p, H ≤ p → p < nP H S → Q p = []) ∧ Hid (pot H S Q = 4 * j) ∧ Hid (Ob wr wb (icells 8 fun b => (cnt H M b j : Nat)) TI)) (fun i _ _ _ _ _ => n - (intOf i).toNat)
  case atStart => exact ⟨0, _, by omega, rfl, F2, Lib.hid Ar.new, Lib.hid (fun _ _ _ => rfl), Lib.hid (pot_none fun _ _ => rfl), OW0⟩
  case round =>
    obtain ⟨j, Q, hj, rfl, FJ, AJ, QJ, PJ, OJ⟩ := hrel
    clear F2 OW0
    rename World => wi
    by_cases hlt : j < n
    · have hsr : Hid ((j + M : Int) % (H : Int) = (srcA H M j : Nat)) := Lib.hid (by unfold srcA; push_cast; rfl)
      have hH1 : ((H : Int) - 1) = ((H - 1 : Nat) : Int) := by omega
      have hds : Hid (((srcA H M j : Nat) + 1 + (j : Int) * (M : Int) % ((H : Int) - 1)) % (H : Int) = (dstA H M j : Nat)) := Lib.hid (by rw [hH1]; unfold dstA; push_cast; rfl)
      have hmm : j * M ≤ 40 * 1000 := Nat.mul_le_mul (by omega) (by omega)
      have hml : 0 ≤ (j : Int) * (M : Int) ∧ (j : Int) * (M : Int) ≤ 40000 := by
        have : (j : Int) * (M : Int) = ((j * M : Nat) : Int) := by push_cast; rfl
        omega
      have hs1 := srcA_lt (M := M) (i := j) hH2
      have hd1 := dstA_lt (M := M) (i := j) hH2
      have ht : 0 ≤ (j : Int) * (M : Int) % ((H : Int) - 1) ∧ (j : Int) * (M : Int) % ((H : Int) - 1) ≤ 7 := by
        have a1 := Int.emod_nonneg ((j : Int) * (M : Int)) (show ((H : Int) - 1) ≠ 0 by omega)
        have a2 := Int.emod_lt_of_pos ((j : Int) * (M : Int)) (show (0 : Int) < (H : Int) - 1 by omega)
        omega
      clear hmm hH1
      go_upto_region 12 with fail
      rw [hsr.out]
      go_upto_region 13 with fail
      rw [hds.out]
      go_wp2_with fail
      have hrd : Rd (wi.alloc (.cells #[.int .u8 j, .int .u8 1, .int .u8 2] TU)) 1 (.slice (some ⟨wi.heap.size, 0, none⟩) 3 3) 3 (bcells [UInt8.ofNat j, 1, 2]) := by
        have hj8 : ((UInt8.ofNat j).toNat : Int) = j := by
          rw [UInt8.toNat_ofNat']
          omega
        refine .inr ⟨⟨wi.heap.size, 0, none⟩, 3, rfl, Nat.le_refl _, by decide, rfl, fun q u hq => ?_⟩
        rw [addr_add, World.cell?_alloc_mark, Nat.zero_add, ← hq, List.getElem?_toArray]
        unfold bcells
        rw [List.map_cons, hj8]
        rfl
      have F3 := Lib.hid (FJ.out.below ((Below.refl _ wi).alloc (Nat.le_refl _) (.cells #[.int .u8 j, .int .u8 1, .int .u8 2] TU)))
      have O3 := Lib.hid (OJ.out.alloc (.cells #[.int .u8 j, .int .u8 1, .int .u8 2] TU))
      have hsum : sumZ (Q (srcA H M j)) + 29 ≤ 1048576 := by
        have hp : srcA H M j < nP H S := by rw [HNP.out]; omega
        have h2 := FJ.out.len hp
        rw [sumZ_29 _ fun x hx => by obtain ⟨i, _, rfl, _⟩ := AJ.out.from' _ hp x hx; rfl]
        omega
      have hsd := fj_send F3.out (k := srcA H M j) (d := dstA H M j) (x := { fA H M j with da := some ⟨wi.heap.size, 0, none⟩, dc := 3 }) HS.out hs1 hd1 rfl (dstA_ne hH2) (fA_ok ⟨hH2, hH8⟩ (by omega)) rfl hrd (by omega) ⟨by show (1 : Int) ≠ 11; decide, rfl⟩ hsum
      refine hsd.mono ?_
      rintro e w3 ⟨rfl, h3, ho3⟩
      have F4 : Hid (Fi f w.heap.size H S (upd Q (srcA H M j) (Q (srcA H M j) ++ [fA H M j])) (fun _ => []) 1048576 0 (2 * j + 2) w w3) := Lib.hid h3
      have O4 := Lib.hid (ho3 _ _ _ O3.out ti_no)
      clear h3 ho3 hsd hrd F3 O3 hsum
      obtain ⟨lo, co, fo⟩ := O4.out.blk
      have cdst : w3.cell? ⟨wb, dstA H M j, none⟩ = some (.int .i64 ((cnt H M (dstA H M j) j : Nat) : Int)) := (co (dstA H M j)).trans (icells_get _ (by omega))
      have hcl := cnt_le H M (dstA H M j) j
      have HV : Hid (upd (fun b => ((cnt H M b j : Nat) : Int)) (dstA H M j) ((cnt H M (dstA H M j) j : Nat) + 1) = fun b => ((cnt H M b (j + 1) : Nat) : Int)) := Lib.hid (by
        funext b
        rw [cnt_succ]
        unfold upd
        by_cases e : b = dstA H M j
        · rw [if_pos e, e, if_pos rfl]; push_cast; rfl
        · rw [if_neg e, if_neg (fun e2 => e e2.symm)]; push_cast; omega)
      clear co
      go_wp2_with fail
      have O5 : Hid (Ob (w3.setCell ⟨wb, dstA H M j, none⟩ (.int .i64 ((cnt H M (dstA H M j) j : Nat) + 1))) wb (icells 8 fun b => (cnt H M b (j + 1) : Nat)) TI) := Lib.hid ((O4.out.set _ _).cast (by rw [icells_set, HV.out]))
      have F5 := Lib.hid (F4.out.setO O4.out ti_no (by decide) HWB.out (.int .i64 ((cnt H M (dstA H M j) j : Nat) + 1)) (i := dstA H M j))
      go_roundw
      case rel =>
        refine ⟨j + 1, _, by omega, by go_num, F5, Lib.hid (AJ.out.send HS.out (fun _ _ => rfl) QJ.out), Lib.hid (fun p h1 h2 => ?_), Lib.hid ?_, O5⟩
        · rw [upd_other _ _ (by omega)]; exact QJ.out p h1 h2
        · rw [pot_send HS.out, PJ.out]; omega
      case measure => simp [intOf]; omega
    · obtain rfl : j = n := by omega
      clear QJ
      go_wp2_with fail
      go_loopw [17, 18] (fun k _ wr => ∃ (q : Nat) (Q A : Nat → List It), q ≤ 4 * j + 8 ∧ k = .int .i64 q ∧ Hid (Fi f w.heap.size H S Q A 1048576 0 (80 + 96 * q) w wr) ∧ Hid (Ar H S M j Q A) ∧ Hid (pot H S Q ≤ 4 * j - q) ∧ Hid (Ob wr wb (icells 8 fun b => (cnt H M b j : Nat)) TI)) (fun k _ _ => 4 * j + 8 - (intOf k).toNat)
      case atStart => exact ⟨0, _, _, by omega, rfl, Lib.hid (FJ.out.mono (by omega)), AJ, Lib.hid (by rw [PJ.out]; omega), OJ⟩
      case round =>
        obtain ⟨q, Q1, A1, hq, rfl, FK, AK, PK, OK⟩ := hrel
        clear FJ AJ PJ OJ
        rename World => wk
        by_cases hlt2 : q < 4 * j + 8
        · obtain ⟨P0, hP0⟩ : ∃ P0, Hid (pot H S Q1 = P0) := ⟨_, Lib.hid rfl⟩
          go_wp2_with fail
          rw [decide_eq_true (show (q : Int) < 4 * (j : Int) + 8 by omega)]
          go_loopw [18] (fun p wr => ∃ (p' : Nat) (Q A : Nat → List It), p' ≤ nP H S ∧ p = .int .i64 p' ∧ Hid (Fi f w.heap.size H S Q A 1048576 0 (80 + 96 * q + 2 * p') w wr) ∧ Hid (Ar H S M j Q A) ∧ Hid (pot H S Q < P0 ∨ (pot H S Q = P0 ∧ ∀ i, i < p' → Q i = [])) ∧ Hid (Ob wr wb (icells 8 fun b => (cnt H M b j : Nat)) TI)) (fun p _ => nP H S - (intOf p).toNat)
          case atStart => exact ⟨0, _, _, by omega, rfl, FK, AK, Lib.hid (.inr ⟨hP0.out, fun i hi => absurd hi (Nat.not_lt_zero _)⟩), OK⟩
          case round =>
            obtain ⟨p, Q2, A2, hp, rfl, FP, AP, PP, OP⟩ := hrel
            clear FK AK OK
            rename World => wp
            go_wp2_with fail
            refine (fi_ports FP.out).mono ?_
            rintro e w8 ⟨rfl, rfl⟩
            by_cases hlt3 : p < nP H S
            · have hlen : ∀ i, i < nP H S → sumZ (Q2 i) ≤ 29 * (80 + 96 * q + 2 * p) := fun i hi => by
                rw [sumZ_29 _ fun x hx => by obtain ⟨i, _, rfl, _⟩ := AP.out.from' _ hi x hx; rfl]
                have := FP.out.len hi
                omega
              have HLEN := Lib.hid hlen
              clear hlen
              have hserve := fj_serve FP.out (n := p) (now := q) hlt3 (by omega) (fun x r m hx hm => by
                obtain ⟨i, _, rfl, _⟩ := AP.out.from' p hlt3 x (by rw [hx]; exact List.mem_cons_self)
                have h1 := HLEN.out m hm
                have h2 : sumZ (upd Q2 p r m) ≤ 29 * (80 + 96 * q + 2 * p) := by
                  by_cases e : m = p
                  · subst e
                    rw [upd_same]
                    rw [hx, sumZ_cons] at h1
                    have := (szIt (fA H M i)).1
                    omega
                  · rw [upd_other _ _ e]; exact h1
                rw [fA_sz]
                omega) (fun x r hx => by
                obtain ⟨i, _, rfl, hon⟩ := AP.out.from' p hlt3 x (by rw [hx]; exact List.mem_cons_self)
                rcases nxt_fA HS.out hlt3 hon with ⟨_, h2⟩ | ⟨_, m, h2, _⟩
                · rw [h2]; decide
                · rw [h2]; intro hh; have := (Prod.mk.inj hh).1; omega)
              go_wp2_with fail
              refine (hserve).mono ?_
              clear hserve
              rintro e w9 ⟨b, Q3, A3, rfl, hsv, h9, ho9⟩
              have F9 := Lib.hid h9
              have O9 := Lib.hid (ho9 _ _ _ OP.out ti_no)
              obtain ⟨har, hpt⟩ := AP.out.serve HS.out hlt3 hsv
              have A9 := Lib.hid har
              have P9 : Hid (pot H S Q3 < P0 ∨ (pot H S Q3 = P0 ∧ ∀ i, i < p + 1 → Q3 i = [])) := Lib.hid (by
                rcases hpt with ⟨h1, h2⟩ | h1
                · rw [h2]
                  refine PP.out.imp id fun h3 => ⟨h3.1, fun i hi => ?_⟩
                  by_cases e : i = p
                  · rw [e]; exact h1
                  · exact h3.2 i (by omega)
                · refine .inl ?_
                  rcases PP.out with h3 | h3
                  · omega
                  · have := h3.1; omega)
              clear h9 ho9 har hpt hsv
              go_wp2_with fail
              go_roundw
              case rel => exact ⟨p + 1, _, _, by omega, by go_num, Lib.hid (F9.out.mono (by omega)), A9, P9, O9⟩
              case measure => simp [intOf]; omega
            · obtain rfl : p = nP H S := by omega
              have hpk : pot H S Q2 ≤ 4 * j - (q + 1) := by
                have h1 := PK.out
                have h2 := hP0.out
                rcases PP.out with h3 | ⟨_, h3⟩
                · omega
                · rw [pot_none h3]; exact Nat.zero_le _
              have HPK := Lib.hid hpk
              clear hpk
              go_wp2_with fail
              go_roundw
              case rel => exact ⟨q + 1, _, _, by omega, by go_num, Lib.hid (FP.out.mono (by omega)), AP, HPK, OP⟩
              case measure => simp [intOf]; omega
        · obtain rfl : q = 4 * j + 8 := by omega
          have hp0 : pot H S Q1 = 0 := by have := PK.out; omega
          have GD := Lib.hid (AK.out.done HS.out hp0)
          have HQ1 := Lib.hid (fun i (hi : i < nP H S) => pot_zero hp0 hi)
          clear hp0 PK AK
          obtain ⟨i1, hi1, hz1, hs1, hb1⟩ := info_parts info_bo
          go_wp2_with (refine wpList_make_row _ rfl (.tmp 129) (.tmp 129) _ rfl TBo i1 (.bool false) (by rfl) hi1 hz1 hs1 rfl .i64 .i64 j rfl rfl (by rw [hb1]; omega) (by omega) ?_)
          have OS := Lib.hid (Ob.cast (Ob.new wk (madeCells #[.bool false] j) TBo) (made_ocells j))
          have FS := Lib.hid (FK.out.below ((Below.refl _ wk).alloc (Nat.le_refl _) (.cells (madeCells #[.bool false] j) TBo)))
          have OK2 := Lib.hid (OK.out.alloc (.cells (madeCells #[.bool false] j) TBo))
          have hle2 := FK.out.bel.size
          clear hi1 hz1 hs1 hb1 FK OK
          obtain ⟨sb, hsb⟩ : ∃ sb, Hid (wk.heap.size = sb) := ⟨_, Lib.hid rfl⟩
          have HSB : Hid (w.heap.size ≤ sb) := Lib.hid (by rw [← hsb.out]; exact hle2)
          rw [hsb.out] at OS ⊢
          clear hle2
          generalize wk.alloc (.cells (madeCells #[.bool false] j) TBo) = w5 at *
          go_loopw [20, 21, 22, 23, 24, 25, 26] (fun h _ _ _ _ _ _ wr => ∃ (k : Nat) (A : Nat → List It) (sn : Nat → Bool), k ≤ H ∧ h = .int .i64 k ∧ Hid (Fi f w.heap.size H S Q1 A 1048576 0 20000 w wr) ∧ Hid ((∀ b, b < k → A b = []) ∧ (∀ b, k ≤ b → A b = A1 b)) ∧ Hid (∀ b, k ≤ b → b < H → ∀ x, x ∈ A1 b → sn x.msg.toNat = false) ∧ Hid (Ob wr wb (icells 8 fun b => (cnt H M b j : Nat)) TI) ∧ Hid (Ob wr sb (ocells j sn) TBo)) (fun h _ _ _ _ _ _ _ => H - (intOf h).toNat)
          case atStart => exact ⟨0, A1, _, by omega, rfl, Lib.hid (FS.out.mono (by omega)), Lib.hid ⟨fun b hb => absurd hb (Nat.not_lt_zero _), fun _ _ => rfl⟩, Lib.hid (fun _ _ _ _ _ => rfl), OK2, OS⟩
          case round =>
            obtain ⟨k, A2, sn, hk, rfl, FH, AH, SH, OH, OB⟩ := hrel
            clear FS OK2 OS
            rename World => wh
            by_cases hlt4 : k < H
            · obtain ⟨lo, co, fo⟩ := OH.out.blk
              have cwk : wh.cell? ⟨wb, k, none⟩ = some (.int .i64 ((cnt H M k j : Nat) : Int)) := (co k).trans (icells_get _ (by omega))
              clear co
              obtain ⟨i2, hi2, hz2, hs2, hb2⟩ := info_parts info_in
              go_wp2_with (refine wpList_make_row _ rfl (.const (.int .i64 8)) (.const (.int .i64 8)) _ rfl TI i2 (.int .i64 0) (by rfl) hi2 hz2 hs2 rfl .i64 .i64 8 rfl rfl (by rw [hb2]; decide) (by decide) ?_)
              have OL := Lib.hid (Ob.cast (Ob.new wh (madeCells #[.int .i64 0] 8) TI) (made_icells 8))
              have FL := Lib.hid (FH.out.below ((Below.refl _ wh).alloc (Nat.le_refl _) (.cells (madeCells #[.int .i64 0] 8) TI)))
              have OH2 := Lib.hid (OH.out.alloc (.cells (madeCells #[.int .i64 0] 8) TI))
              have OB2 := Lib.hid (OB.out.alloc (.cells (madeCells #[.int .i64 0] 8) TI))
              have hle3 := FH.out.bel.size
              have hlw : wb ≠ wh.heap.size := fun e => absurd lo (by rw [e]; exact Nat.lt_irrefl _)
              clear hi2 hz2 hs2 hb2 FH OH OB lo fo cwk
              obtain ⟨lb, hlb⟩ : ∃ lb, Hid (wh.heap.size = lb) := ⟨_, Lib.hid rfl⟩
              have HLB : Hid (w.heap.size ≤ lb) := Lib.hid (by rw [← hlb.out]; exact hle3)
              rw [hlb.out] at OL hlw ⊢
              clear hle3
              generalize wh.alloc (.cells (madeCells #[.int .i64 0] 8) TI) = w6 at *
              have hgl : (A1 k).length = cnt H M k j := GD.out.len k hlt4
              have HGL := Lib.hid hgl
              have hcl := cnt_le H M k j
              clear hgl
              go_loopw [22, 23, 24] (fun i _ _ wr => ∃ (i' : Nat) (A : Nat → List It) (sn : Nat → Bool) (la : Nat → Int), i' ≤ cnt H M k j ∧ i = .int .i64 i' ∧ Hid (Fi f w.heap.size H S Q1 A 1048576 0 20000 w wr) ∧ Hid ((∀ b, b < k → A b = []) ∧ (∀ b, k < b → A b = A1 b) ∧ A k = (A1 k).drop i') ∧ Hid ((∀ x, x ∈ (A1 k).drop i' → sn x.msg.toNat = false ∧ la x.src.toNat ≤ x.msg) ∧ ∀ b, k < b → b < H → ∀ x, x ∈ A1 b → sn x.msg.toNat = false) ∧ Hid (Ob wr wb (icells 8 fun b => (cnt H M b j : Nat)) TI) ∧ Hid (Ob wr sb (ocells j sn) TBo) ∧ Hid (Ob wr lb (icells 8 la) TI)) (fun i _ _ _ => cnt H M k j - (intOf i).toNat)
              case atStart =>
                exact ⟨0, A2, sn, _, by omega, rfl, FL, Lib.hid ⟨AH.out.1, fun b hb => AH.out.2 b (by omega), AH.out.2 k (Nat.le_refl _)⟩, Lib.hid ⟨fun x hx => ⟨SH.out k (Nat.le_refl _) hlt4 x hx, by obtain ⟨i, _, rfl, _⟩ := GD.out.mem k hlt4 x hx; show (0 : Int) ≤ (i : Int); omega⟩, fun b hb => SH.out b (by omega)⟩, OH2, OB2, OL⟩
              case round =>
                obtain ⟨i, A3, sn2, la, hi, rfl, FI, AI, SI, OHI, OBI, OLI⟩ := hrel
                clear FL OH2 OB2 OL SH AH
                rename World => wl
                obtain ⟨lo, co, fo⟩ := OHI.out.blk
                have cwk : wl.cell? ⟨wb, k, none⟩ = some (.int .i64 ((cnt H M k j : Nat) : Int)) := (co k).trans (icells_get _ (by omega))
                clear co
                by_cases hlt5 : i < cnt H M k j
                · have hi2 : i < (A1 k).length := by rw [HGL.out]; exact hlt5
                  obtain ⟨q0, hq0, hx, hdq⟩ := GD.out.mem k hlt4 _ (List.getElem_mem hi2)
                  have HD := Lib.hid (show (A1 k).drop i = fA H M q0 :: (A1 k).drop (i + 1) by rw [← hx]; exact List.drop_eq_getElem_cons hi2)
                  have hak : A3 k = fA H M q0 :: (A1 k).drop (i + 1) := AI.out.2.2.trans HD.out
                  have HUP : Hid (∀ y, y ∈ (A1 k).drop (i + 1) → y.src = (srcA H M q0 : Nat) → (q0 : Int) < y.msg) := Lib.hid (fun y hy hs => by
                    have h1 := (GD.out.up k hlt4).drop (i := i)
                    rw [HD.out] at h1
                    exact (List.pairwise_cons.1 h1).1 y hy hs.symm)
                  have HDQ := Lib.hid hdq
                  clear hx hdq hi2
                  go_wp2_with fail
                  refine (fj_take FI.out hlt4 hak (by decide)).mono ?_
                  rintro e w7 ⟨y, rfl, hy, hry, h7, ho7⟩
                  obtain ⟨ya, yc, rfl⟩ : ∃ a c, y = (fA H M q0).data a c := ⟨_, _, plain_eq hy⟩
                  have F7 := Lib.hid h7
                  have R7 : Hid (Rd w7 1 (.slice ya 3 yc) 3 (bcells [UInt8.ofNat q0, 1, 2])) := Lib.hid hry
                  have OH7 := Lib.hid (ho7 _ _ _ OHI.out ti_no)
                  have OB7 := Lib.hid (ho7 _ _ _ OBI.out tb_no)
                  have OL7 := Lib.hid (ho7 _ _ _ OLI.out ti_no)
                  clear h7 ho7 hy hry FI OHI OBI OLI lo fo cwk hak
                  have hsr := srcA_lt (M := M) (i := q0) hH2
                  have hds := dstA_lt (M := M) (i := q0) hH2
                  unfold It.frv It.data fA
                  rw [HDQ.out]
                  go_upto_region 33 with fail
                  have OY := Lib.hid (Ob.new w7 #[.int .i64 1, .int .i64 (srcA H M q0 : Nat), .int .i64 k, .int .i64 0, .int .u64 q0, .int .i64 0, .int .i64 3, .int .i64 3, .int .i64 0, .slice ya 3 yc] TFr)
                  have F8 := Lib.hid (F7.out.below ((Below.refl _ w7).alloc (Nat.le_refl _) (.cells #[.int .i64 1, .int .i64 (srcA H M q0 : Nat), .int .i64 k, .int .i64 0, .int .u64 q0, .int .i64 0, .int .i64 3, .int .i64 3, .int .i64 0, .slice ya 3 yc] TFr)))
                  have R8 := Lib.hid (R7.out.below ((Below.refl _ w7).alloc (Nat.le_refl _) (.cells #[.int .i64 1, .int .i64 (srcA H M q0 : Nat), .int .i64 k, .int .i64 0, .int .u64 q0, .int .i64 0, .int .i64 3, .int .i64 3, .int .i64 0, .slice ya 3 yc] TFr)))
                  have OH8 := Lib.hid (OH7.out.alloc (.cells #[.int .i64 1, .int .i64 (srcA H M q0 : Nat), .int .i64 k, .int .i64 0, .int .u64 q0, .int .i64 0, .int .i64 3, .int .i64 3, .int .i64 0, .slice ya 3 yc] TFr))
                  have OB8 := Lib.hid (OB7.out.alloc (.cells #[.int .i64 1, .int .i64 (srcA H M q0 : Nat), .int .i64 k, .int .i64 0, .int .u64 q0, .int .i64 0, .int .i64 3, .int .i64 3, .int .i64 0, .slice ya 3 yc] TFr))
                  have OL8 := Lib.hid (OL7.out.alloc (.cells #[.int .i64 1, .int .i64 (srcA H M q0 : Nat), .int .i64 k, .int .i64 0, .int .u64 q0, .int .i64 0, .int .i64 3, .int .i64 3, .int .i64 0, .slice ya 3 yc] TFr))
                  obtain ⟨Y, HY⟩ : ∃ Y, Hid (w7.heap.size = Y) := ⟨_, Lib.hid rfl⟩
                  rw [HY.out] at OY ⊢
                  clear F7 R7 OH7 OB7 OL7
                  generalize w7.alloc (.cells #[.int .i64 1, .int .i64 (srcA H M q0 : Nat), .int .i64 k, .int .i64 0, .int .u64 q0, .int .i64 0, .int .i64 3, .int .i64 3, .int .i64 0, .slice ya 3 yc] TFr) = w8 at *
                  have lY := OY.out.lt
                  have lS := OB8.out.lt
                  have lL := OL8.out.lt
                  have cy1 : w8.cell? ⟨Y, 1, none⟩ = some (.int .i64 ((srcA H M q0 : Nat) : Int)) := (OY.out.blk).2.1 1
                  have cy2 : w8.cell? ⟨Y, 2, none⟩ = some (.int .i64 (k : Int)) := (OY.out.blk).2.1 2
                  have cy4 : w8.cell? ⟨Y, 4, none⟩ = some (.int .u64 (q0 : Int)) := (OY.out.blk).2.1 4
                  have cy9 : w8.cell? ⟨Y, 9, none⟩ = some (.slice ya 3 yc) := (OY.out.blk).2.1 9
                  have hsi := SI.out.1 (fA H M q0) (by rw [HD.out]; exact List.mem_cons_self)
                  have hm0 : (fA H M q0).msg.toNat = q0 := by show ((q0 : Nat) : Int).toNat = q0; omega
                  have hs0 : (fA H M q0).src.toNat = srcA H M q0 := by show ((srcA H M q0 : Nat) : Int).toNat = _; omega
                  rw [hm0, hs0] at hsi
                  have csn : w8.cell? ⟨sb, q0, none⟩ = some (.bool false) := ((OB8.out.blk).2.1 q0).trans ((ocells_get _ hq0).trans (by rw [hsi.1]))
                  have cla : w8.cell? ⟨lb, srcA H M q0, none⟩ = some (.int .i64 (la (srcA H M q0))) := ((OL8.out.blk).2.1 (srcA H M q0)).trans (icells_get _ (by omega))
                  have hla : la (srcA H M q0) ≤ q0 := hsi.2
                  clear hsi hm0 hs0
                  have R8d := Lib.hid (R8.out.kept (Kept.drew (fun _ => False) w8) (fun _ _ _ _ h => h))
                  have hq40 : q0 ≤ 40 := by omega
                  have hjq : ¬ (j ≤ q0) := by omega
                  have hjq2 : ¬ ((j : Int) ≤ (q0 : Int)) := by omega
                  have hs70 : ¬ (((srcA H M q0 : Nat) : Int) < 0) := by omega
                  have hs77 : ¬ (7 < ((srcA H M q0 : Nat) : Int)) := by omega
                  have hs77n : ¬ (7 < srcA H M q0) := by omega
                  have hlaq : ¬ ((q0 : Int) + 1 ≤ la (srcA H M q0)) := by omega
                  refine wp_run (M := (fun _ => False)) (stages [([true, true, true, true, true, true, true, true, true, true, true, true, true, true, true, true, true, true, true, true, true, true, true, true, true, true, true, true, true, true, true, true, true, true, true, true, true, true, true, true, true, true, true, true, true, true, true, true, true, true, true, false, false, false, false], 51)] [false, false, false, false, false, false, false, false, false, false, false, false, false, false, false, false, false, false, false, false, false, false, false, false, false, false, false, false, false, false, false, false, false, false, false, false, false, false, false, false, false, false, false, false, false, false, false, false, false, false, false, false, true, true, true]) (by kernel_rfl) (by kernel_rfl) ?_
                  refine run_stage rfl ?_
                  simp only [pickAt]
                  repeat (first
                    | (refine quiet_str rfl 32 9 (.tmp 197) rfl Try.underlying32 Try.underlying5 Try.underlying9 (l := [UInt8.ofNat q0, 1, 2]) (fun w hw => by obtain ⟨k, rfl⟩ := hw; exact R8d.out.later k) rfl ?_; simp only [Act.put, List.setIfInBounds_toArray, List.set_cons_zero, List.set_cons_succ])
                    | go_big_quiet_step (fail))
                  refine wpQuiet_nil ?_
                  refine run_want rfl ?_
                  intro A hA
                  go_simp
                  have hq8 : ((UInt8.ofNat q0).toNat : Int) = q0 := by
                    rw [UInt8.toNat_ofNat']
                    omega
                  have R9 : Hid (Rd (w8.drew.alloc (.cells #[.int .u8 q0, .int .u8 1, .int .u8 2] TU)) 1 (.slice (some ⟨w8.heap.size, 0, none⟩) 3 3) 3 (bcells [UInt8.ofNat q0, 1, 2])) := Lib.hid (by
                    refine .inr ⟨⟨w8.heap.size, 0, none⟩, 3, rfl, Nat.le_refl _, by decide, rfl, fun q u hq => ?_⟩
                    rw [addr_add, show w8.heap.size = w8.drew.heap.size from rfl, World.cell?_alloc_mark, Nat.zero_add, ← hq, List.getElem?_toArray]
                    unfold bcells
                    rw [List.map_cons, hq8]
                    rfl)
                  clear hq8
                  have K9 : Hid (Below w8.heap.size w8 (w8.alloc (.cells #[.int .u8 q0, .int .u8 1, .int .u8 2] TU)).drew) := Lib.hid (((Below.refl _ w8).alloc (Nat.le_refl _) _).drew)
                  refine hA _ _ ((Kept.refl _ _).alloc _) ?_
                  try simp only [Act.put, List.setIfInBounds_toArray, List.set_cons_zero, List.set_cons_succ]
                  clear A hA
                  refine run_last ?_
                  simp only [pickAt]
                  repeat (first
                    | (refine quiet_str rfl 32 9 (.tmp 202) rfl Try.underlying32 Try.underlying5 Try.underlying9 (l := [UInt8.ofNat q0, 1, 2]) (fun w hw => by obtain ⟨k, rfl⟩ := hw; exact R9.out.later k) rfl ?_; simp only [Act.put, List.setIfInBounds_toArray, List.set_cons_zero, List.set_cons_succ])
                    | go_big_quiet_step (fail))
                  refine wpQuiet_nil ?_
                  have F9 := Lib.hid (F8.out.below K9.out)
                  have OH9 := Lib.hid (OH8.out.below K9.out)
                  have OB9 := Lib.hid (OB8.out.below K9.out)
                  have OL9 := Lib.hid (OL8.out.below K9.out)
                  have OY9 := Lib.hid (OY.out.below K9.out)
                  clear F8 R8 R8d OH8 OB8 OL8 OY lY lS lL cy1 cy2 cy4 cy9 csn cla hlaq R9 K9
                  generalize (w8.alloc (.cells #[.int .u8 q0, .int .u8 1, .int .u8 2] TU)).drew = w9 at *
                  obtain ⟨lY, cY, fY⟩ := OY9.out.blk
                  have cy1 : w9.cell? ⟨Y, 1, none⟩ = some (.int .i64 ((srcA H M q0 : Nat) : Int)) := cY 1
                  have cy4 : w9.cell? ⟨Y, 4, none⟩ = some (.int .u64 (q0 : Int)) := cY 4
                  obtain ⟨lS, cS, fS⟩ := OB9.out.blk
                  obtain ⟨lL, cL, fL⟩ := OL9.out.blk
                  have csn : w9.cell? ⟨sb, q0, none⟩ = some (.bool (sn2 q0)) := (cS q0).trans (ocells_get _ hq0)
                  have cla : w9.cell? ⟨lb, srcA H M q0, none⟩ = some (.int .i64 (la (srcA H M q0))) := (cL (srcA H M q0)).trans (icells_get _ (by omega))
                  have hYs : Y ≠ sb := fun e => absurd (Ty.one (e ▸ OY9.out.ty) OB9.out.ty) (by decide)
                  have hYl : Y ≠ lb := fun e => absurd (Ty.one (e ▸ OY9.out.ty) OL9.out.ty) (by decide)
                  have hsl : sb ≠ lb := fun e => absurd (Ty.one (e ▸ OB9.out.ty) OL9.out.ty) (by decide)
                  have hws : wb ≠ sb := fun e => absurd (Ty.one (e ▸ OH9.out.ty) OB9.out.ty) (by decide)
                  clear cY cS cL
                  go_upto_region 36 with fail
                  have OB10 : Hid (Ob (w9.setCell ⟨sb, q0, none⟩ (.bool true)) sb (ocells j (upd sn2 q0 true)) TBo) := Lib.hid ((OB9.out.set _ _).cast (ocells_set _ _ _ _))
                  have OH10 := Lib.hid (OH9.out.other ⟨sb, q0, none⟩ (.bool true) hws)
                  have OL10 := Lib.hid (OL9.out.other ⟨sb, q0, none⟩ (.bool true) (fun e => hsl e.symm))
                  have OY10 := Lib.hid (OY9.out.other ⟨sb, q0, none⟩ (.bool true) hYs)
                  have F10 := Lib.hid (F9.out.setO OB9.out tb_no (by decide) HSB.out (.bool true) (i := q0))
                  clear F9 OB9 OH9 OL9 OY9 lY fY cy1 cy4 lS fS lL fL csn cla
                  generalize w9.setCell ⟨sb, q0, none⟩ (.bool true) = w10 at *
                  obtain ⟨lY, cY, fY⟩ := OY10.out.blk
                  have cy1 : w10.cell? ⟨Y, 1, none⟩ = some (.int .i64 ((srcA H M q0 : Nat) : Int)) := cY 1
                  have cy4 : w10.cell? ⟨Y, 4, none⟩ = some (.int .u64 (q0 : Int)) := cY 4
                  obtain ⟨lL, cL, fL⟩ := OL10.out.blk
                  have cla : w10.cell? ⟨lb, srcA H M q0, none⟩ = some (.int .i64 (la (srcA H M q0))) := (cL (srcA H M q0)).trans (icells_get _ (by omega))
                  clear cY cL
                  go_wp2_with fail
                  have OL11 : Hid (Ob (w10.setCell ⟨lb, srcA H M q0, none⟩ (.int .i64 ((q0 : Int) + 1))) lb (icells 8 (upd la (srcA H M q0) ((q0 : Int) + 1))) TI) := Lib.hid ((OL10.out.set _ _).cast (icells_set _ _ _ _))
                  have OH11 := Lib.hid (OH10.out.other ⟨lb, srcA H M q0, none⟩ (.int .i64 ((q0 : Int) + 1)) hlw)
                  have OB11 := Lib.hid (OB10.out.other ⟨lb, srcA H M q0, none⟩ (.int .i64 ((q0 : Int) + 1)) hsl)
                  have F11 := Lib.hid (F10.out.setO OL10.out ti_no (by decide) HLB.out (.int .i64 ((q0 : Int) + 1)) (i := srcA H M q0))
                  have SI2 : Hid ((∀ x, x ∈ (A1 k).drop (i + 1) → upd sn2 q0 true x.msg.toNat = false ∧ upd la (srcA H M q0) ((q0 : Int) + 1) x.src.toNat ≤ x.msg) ∧ ∀ b, k < b → b < H → ∀ x, x ∈ A1 b → upd sn2 q0 true x.msg.toNat = false) := Lib.hid (by
                    refine ⟨fun x hx => ?_, fun b hb hbH x hx => ?_⟩
                    · have h1 := SI.out.1 x (by rw [HD.out]; exact List.mem_cons_of_mem _ hx)
                      have h2 := HUP.out x hx
                      obtain ⟨q1, hq1, rfl, hd1⟩ := GD.out.mem k hlt4 x (List.mem_of_mem_drop hx)
                      have hm1 : (fA H M q1).msg.toNat = q1 := by show ((q1 : Nat) : Int).toNat = q1; omega
                      have hs1 : (fA H M q1).src.toNat = srcA H M q1 := by show ((srcA H M q1 : Nat) : Int).toNat = _; omega
                      rw [hm1, hs1] at h1 ⊢
                      constructor
                      · by_cases e : q1 = q0
                        · exfalso
                          subst e
                          have : ((q1 : Nat) : Int) < ((q1 : Nat) : Int) := h2 rfl
                          omega
                        · rw [upd_other _ _ e]; exact h1.1
                      · by_cases e : srcA H M q1 = srcA H M q0
                        · rw [e, upd_same]
                          have : ((q0 : Nat) : Int) < ((q1 : Nat) : Int) := h2 (by show ((srcA H M q1 : Nat) : Int) = _; rw [e])
                          show (q0 : Int) + 1 ≤ (q1 : Int)
                          omega
                        · rw [upd_other _ _ e]; exact h1.2
                    · have h1 := SI.out.2 b hb hbH x hx
                      obtain ⟨q1, hq1, rfl, hd1⟩ := GD.out.mem b hbH x hx
                      have hm1 : (fA H M q1).msg.toNat = q1 := by show ((q1 : Nat) : Int).toNat = q1; omega
                      rw [hm1] at h1 ⊢
                      rw [upd_other _ _ (fun e => by subst e; have := HDQ.out; omega)]
                      exact h1)
                  have AI2 : Hid ((∀ b, b < k → upd A3 k ((A1 k).drop (i + 1)) b = []) ∧ (∀ b, k < b → upd A3 k ((A1 k).drop (i + 1)) b = A1 b) ∧ upd A3 k ((A1 k).drop (i + 1)) k = (A1 k).drop (i + 1)) := Lib.hid (by
                    refine ⟨fun b hb => ?_, fun b hb => ?_, upd_same _ _ _⟩
                    · rw [upd_other _ _ (by omega)]; exact AI.out.1 b hb
                    · rw [upd_other _ _ (by omega)]; exact AI.out.2.1 b hb)
                  go_roundw
                  case rel => exact ⟨i + 1, _, _, _, by omega, by go_num, F11, AI2, SI2, OH11, OB11, OL11⟩
                  case measure => simp [intOf]; omega
                · obtain rfl : i = cnt H M k j := by omega
                  have hake : A3 k = [] := by
                    rw [AI.out.2.2, ← HGL.out, List.drop_length]
                  go_wp2_with fail
                  refine (fi_take_no FI.out hlt4 hake).mono ?_
                  rintro e w7 ⟨rfl, hb7⟩
                  have F7 := Lib.hid (FI.out.below hb7)
                  have OH7 := Lib.hid (OHI.out.below hb7)
                  have OB7 := Lib.hid (OBI.out.below hb7)
                  have AH7 : Hid ((∀ b, b < k + 1 → A3 b = []) ∧ (∀ b, k + 1 ≤ b → A3 b = A1 b)) := Lib.hid ⟨fun b hb => by
                    by_cases e : b = k
                    · rw [e]; exact hake
                    · exact AI.out.1 b (by omega), fun b hb => AI.out.2.1 b (by omega)⟩
                  clear hb7 FI OHI OBI OLI lo fo cwk
                  unfold noFr
                  go_upto_region 38 with fail
                  have F8 := Lib.hid (F7.out.below ((Below.refl _ w7).alloc (Nat.le_refl _) (.cells #[.int .i64 0, .int .i64 0, .int .i64 0, .int .i64 0, .int .u64 0, .int .i64 0, .int .i64 0, .int .i64 0, .int .i64 0, .slice none 0 0] TFr)))
                  have OH8 := Lib.hid (OH7.out.alloc (.cells #[.int .i64 0, .int .i64 0, .int .i64 0, .int .i64 0, .int .u64 0, .int .i64 0, .int .i64 0, .int .i64 0, .int .i64 0, .slice none 0 0] TFr))
                  have OB8 := Lib.hid (OB7.out.alloc (.cells #[.int .i64 0, .int .i64 0, .int .i64 0, .int .i64 0, .int .u64 0, .int .i64 0, .int .i64 0, .int .i64 0, .int .i64 0, .slice none 0 0] TFr))
                  generalize w7.alloc (.cells #[.int .i64 0, .int .i64 0, .int .i64 0, .int .i64 0, .int .u64 0, .int .i64 0, .int .i64 0, .int .i64 0, .int .i64 0, .slice none 0 0] TFr) = w8 at *
                  go_wp2_with fail
                  go_roundw
                  case rel => exact ⟨k + 1, _, _, by omega, by go_num, F8, AH7, Lib.hid (fun b hb hbH => SI.out.2 b (by omega) hbH), OH8, OB8⟩
                  case measure => simp [intOf]; omega
            · obtain rfl : k = H := by omega
              go_wp2_with fail
              refine (fi_empty FH.out (by decide) (fun i hi => HQ1.out i hi) (fun i hi => AH.out.1 i hi)).mono ?_
              rintro e w6 ⟨rfl, hm⟩
              have F6 : Hid (Fi f w.heap.size k S Q1 A2 1048576 0 20000 w w6) := by obtain ⟨m, rfl⟩ := hm; exact Lib.hid (FH.out.dn m)
              clear hm
              go_wp2_with fail
              refine (fi_lost F6.out).mono ?_
              rintro e w7 ⟨rfl, rfl⟩
              go_wp2_with fail
              refine (awake_f _).mono ?_
              rintro e w7 ⟨rfl, hb7⟩
              have F7 := Lib.hid (F6.out.below hb7)
              clear hb7
              go_wp2_with fail
              go_ret
              exact ⟨rfl, F7.out.bel⟩
set_option maxRecDepth 100000 in
set_option maxHeartbeats 4000000 in
theorem arrives_law (h s n mix : Int) (w : World) : Calls Try.prog 3 #[.int .i64 h, .int .i64 s, .int .i64 n, .int .i64 mix] w (TrueBelow w) := by
  by_cases hin : (2 ≤ h ∧ h ≤ 8) ∧ (1 ≤ s ∧ s ≤ 4) ∧ 0 ≤ n ∧ n ≤ 40
  · obtain ⟨H, rfl⟩ : ∃ H : Nat, h = H := ⟨h.toNat, by omega⟩
    obtain ⟨S, rfl⟩ : ∃ S : Nat, s = S := ⟨s.toNat, by omega⟩
    obtain ⟨c, rfl⟩ : ∃ c : Nat, n = c := ⟨n.toNat, by omega⟩
    exact arrives_in H S c mix w ⟨by omega, by omega⟩ (by omega)
  · have hin2 : h < 2 ∨ (2 ≤ h ∧ 8 < h) ∨ ((2 ≤ h ∧ h ≤ 8) ∧ s < 1) ∨ ((2 ≤ h ∧ h ≤ 8) ∧ 1 ≤ s ∧ 4 < s) ∨ ((2 ≤ h ∧ h ≤ 8) ∧ (1 ≤ s ∧ s ≤ 4) ∧ n < 0) ∨ ((2 ≤ h ∧ h ≤ 8) ∧ (1 ≤ s ∧ s ≤ 4) ∧ 0 ≤ n ∧ 40 < n) := by omega
    clear hin
    rcases hin2 with h1 | ⟨h1, h2⟩ | ⟨⟨h1, h2⟩, h3⟩ | ⟨⟨h1, h2⟩, h3, h4⟩ | ⟨⟨h1, h2⟩, ⟨h3, h4⟩, h5⟩ | ⟨⟨h1, h2⟩, ⟨h3, h4⟩, h5, h6⟩
    all_goals
      go_enter Try.func3, Try.ntmps3
      go_wp2_with fail
      refine (awake_f w).mono ?_
      rintro e w1 ⟨rfl, hb⟩
      have HB := Lib.hid hb
      clear hb
      go_wp2_with fail
      go_ret
      exact ⟨rfl, HB.out⟩
end Go.Proofs.Ytoihhidoafgoaaa
