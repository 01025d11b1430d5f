/- The document's port (chapter 13): Used. -/
import Derived.Test.YthgkminjhpaakaaPoR
namespace Go.Proofs.Ythgkminjhpaakaa
open Go.RowKit

theorem bsum_app (l m : List It) : bsum (l ++ m) = bsum l + bsum m := by simp [bsum]
theorem Rt.form {w : World} {v : Value} {l : List It} (h : Rt w v l) : ∃ a c, v = .slice a l.length c ∧ l.length ≤ c ∧ c ≤ 9223372036854775807 := h.rd.form
theorem Mo.line {m : Nat} {U : Nat → Value} {uc : Value} {t : Mp} {w : World} (h : Mo m U uc t w) {q : Nat} (hq : q < 8) : w.cell? ⟨m, 3 + q, none⟩ = some (U q) := by rw [(h.ob.blk).2.1, m_get _ _ _ _ hq]
set_option maxRecDepth 100000 in
set_option maxHeartbeats 4000000 in
theorem mused (m : Nat) (U : Nat → Value) (uc : Value) (t : Mp) (N : Nat) (w : World) (h : Mo m U uc t w) (ho : t.ok N) (hN : N ≤ 100000) : Calls Try.prog 49 #[.pointer (some ⟨m, 0, none⟩)] w fun e w' => e = .returned (.int .i64 (msum t.L 8)) ∧ Below w.heap.size w w' := by
  have HM := Lib.hid h
  have HO := Lib.hid ho
  have HS := Lib.hid (msum_b ho)
  clear h ho
  go_enter Try.func49, Try.ntmps49
  go_wp2_with fail
  go_loopw [3, 4, 5] (fun n k _ wr => ∃ K : Nat, K ≤ 8 ∧ k = .int .i64 K ∧ n = .int .i64 (msum t.L K) ∧ Below w.heap.size w wr) (fun _ k _ _ => 8 - (intOf k).toNat)
  case atStart => exact ⟨0, by omega, rfl, rfl, Below.refl _ _⟩
  case round =>
    obtain ⟨K, hK, rfl, rfl, hb⟩ := hrel
    have BK := Lib.hid hb
    clear hb
    rename World => wk
    by_cases h8 : K < 8
    · have M2 := Lib.hid (HM.out.below BK.out)
      have hll := HO.out.len K h8
      obtain ⟨a, c, hv, _, _⟩ := (M2.out.lines K h8).form
      have HV := Lib.hid hv
      have h1 := HS.out K hK
      have HSK : Hid (0 ≤ msum t.L K ∧ msum t.L K ≤ 8 * (100000 * 1000026)) := Lib.hid (by
        have h2 : (K : Int) * ((N : Int) * 1000026) ≤ 8 * (100000 * 1000026) := by
          have h3 : (N : Int) * 1000026 ≤ 100000 * 1000026 := by omega
          have h4 : (K : Int) * ((N : Int) * 1000026) ≤ 8 * ((N : Int) * 1000026) := Int.mul_le_mul_of_nonneg_right (by omega) (by omega)
          omega
        omega)
      clear hv h1
      go_wp2_with fail
      rw [decide_eq_true (show (K : Int) < 8 by omega)]
      go_loopw [3, 5] (fun n i wr => ∃ j : Nat, j ≤ (t.L K).length ∧ i = .int .i64 j ∧ n = .int .i64 (msum t.L K + bsum ((t.L K).take j)) ∧ Below wk.heap.size wk wr) (fun _ i _ => (t.L K).length - (intOf i).toNat)
      case atStart => exact ⟨0, by omega, rfl, by simp [bsum], Below.refl _ _⟩
      case round =>
        obtain ⟨j, hj, rfl, rfl, hb⟩ := hrel
        have BJ := Lib.hid hb
        clear hb
        rename World => wj
        have M3 := Lib.hid (M2.out.below BJ.out)
        have lm := M3.out.ob.lt
        have cl : wj.cell? ⟨m, 3 + K, none⟩ = some (.slice a (t.L K).length c) := by rw [M3.out.line h8, HV.out]
        by_cases hlt : j < (t.L K).length
        · have hrd := (M3.out.lines K h8).rd
          rw [HV.out] at hrd
          obtain ⟨g, o, hgo, hg, hc⟩ := hrd.row rowIt (by decide) j hlt
          cases hgo
          have hxo := HO.out.items _ (.inr ⟨K, h8, List.getElem_mem hlt⟩)
          have HT := Lib.hid (show bsum ((t.L K).take (j + 1)) = bsum ((t.L K).take j) + ((t.L K)[j]).bytes by rw [List.take_succ_eq_append_getElem hlt, bsum_app]; simp [bsum])
          have hb1 := bsum_b ((t.L K).take j) fun y hy => HO.out.items y (.inr ⟨K, h8, List.mem_of_mem_take hy⟩)
          have hb2 : bsum ((t.L K).take j) ≤ 100000 * 1000026 := by
            have := List.length_take_le j (t.L K)
            omega
          generalize (t.L K)[j] = x at hc hxo HT
          have c0 := hc 0 _ rfl
          have c1 := hc 1 _ rfl
          have c2 := hc 2 _ rfl
          have c3 := hc 3 _ rfl
          have c4 := hc 4 _ rfl
          have c5 := hc 5 _ rfl
          have c6 := hc 6 _ rfl
          have c7 := hc 7 _ rfl
          have c8 := hc 8 _ rfl
          have c9 := hc 9 _ rfl
          rw [Nat.add_zero] at c0
          have hxb := hxo.b
          have hms := msize x wj hxo.len
          unfold It.frv at hms
          have hk1 := HSK.out
          clear hc hrd
          go_wp2_with fail
          refine (hms).mono ?_
          rintro e w5 ⟨rfl, hb5⟩
          have B5 := Lib.hid (BJ.out.trans (hb5.mono BJ.out.size))
          clear hb5 hms
          go_wp2_with fail
          go_roundw
          case rel => exact ⟨j + 1, by omega, by go_num, by rw [HT.out]; go_num, B5.out⟩
          case measure => simp [intOf]; omega
        · obtain rfl : j = (t.L K).length := by omega
          have B6 := Lib.hid (BK.out.trans (BJ.out.mono BK.out.size))
          go_wp2_with fail
          go_roundw
          case rel => exact ⟨K + 1, by omega, by go_num, by rw [List.take_length, msum], B6.out⟩
          case measure => simp [intOf]; omega
    · obtain rfl : K = 8 := by omega
      go_wp2_with fail
      go_ret
      exact ⟨rfl, BK.out⟩
end Go.Proofs.Ythgkminjhpaakaa
