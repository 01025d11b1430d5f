/- The document's fabric (chapter 15): Waits, Bytes. -/
import Derived.Test.YtoihhidoafgoaaaFaBG
namespace Go.Proofs.Ytoihhidoafgoaaa
open Go.RowKit

def Ms.waitN (s : Ms) : Nat := sumN (fun i => (s.P i).waits.length) (nP s.H s.S)
def Ms.arrN (s : Ms) : Nat := sumN (fun i => (s.A i).length) s.H
theorem Mp.ok.w {t : Mp} {N : Nat} (h : t.ok N) : t.waits.length ≤ 9 * N := by
  have h2 := wfrom_len t.L N h.len 8 (by decide)
  have h3 := h.clen
  unfold Mp.waits
  rw [List.length_append]
  omega
def mbyN (h : Int) (P : Nat → Mp) : Nat → Int
  | 0 => 0
  | k + 1 => mbyN h P k + byL h (P k).waits
theorem byL_b2 {h : Int} : ∀ (l : List It), (∀ x, x ∈ l → x.ok2) → 0 ≤ byL h l ∧ byL h l ≤ 1000000 * l.length
  | [], _ => by simp [byL]
  | x :: l, hl => by
    have h1 := byL_b2 (h := h) l fun y hy => hl y (List.mem_cons_of_mem _ hy)
    have h2 := (hl x List.mem_cons_self).len
    have h3 : 0 ≤ by1 h x ∧ by1 h x ≤ 1000000 := by unfold by1; split <;> omega
    rw [byL_cons, List.length_cons]
    push_cast
    omega
section
variable {m : Nat} {l : Ml} {s : Ms} {w w' : World} {N : Nat}
theorem mbyN_b (ho : s.ok N) (h : Int) : ∀ k, k ≤ nP s.H s.S → 0 ≤ mbyN h s.P k ∧ mbyN h s.P k ≤ 9000000 * (k * N)
  | 0, _ => by simp [mbyN]
  | k + 1, hk => by
    have h1 := mbyN_b ho h k (by omega)
    have h2 := ho.p k (by omega)
    have h3 := byL_b2 (h := h) (s.P k).waits fun x hx => h2.items x (mem_mwaits hx)
    have h4 := h2.w
    rw [mbyN]
    have h5 : ((k + 1 : Nat) : Int) * (N : Int) = k * N + N := by push_cast; rw [Int.add_mul, Int.one_mul]
    rw [h5]
    omega
theorem Mf.row_form (h : Mf m l s w) {k : Nat} (hk : k < s.H) : ∃ a c, l.V k = .slice a (s.A k).length c ∧ (s.A k).length ≤ c ∧ c ≤ 9223372036854775807 := (h.rows k hk).form
set_option maxRecDepth 100000 in
set_option maxHeartbeats 4000000 in
theorem mf_waits (h : Mf m l s w) (ho : s.ok N) (hN : N ≤ 100000) : Calls Try.prog 58 #[.pointer (some ⟨m, 0, none⟩)] w fun e w' => e = .returned (.int .i64 ((s.waitN + s.arrN : Nat) : Int)) ∧ Below w.heap.size w w' := by
  have HF := Lib.hid h
  have HL := Lib.hid ho
  obtain ⟨l0, c0, c1, c2, c3⟩ := h.cells
  obtain ⟨np1, np2⟩ := h.hs.np
  obtain ⟨hh1, hh2⟩ := h.hs.h
  have HW := Lib.hid (fun k (hk : k ≤ nP s.H s.S) => sumN_le (fun i => (s.P i).waits.length) (9 * N) k fun i hi => (ho.p i (by omega)).w)
  have HA := Lib.hid (fun k (hk : k ≤ s.H) => sumN_le (fun i => (s.A i).length) N k fun i hi => ho.a i (by omega))
  clear h ho
  go_enter Try.func58, Try.ntmps58
  go_wp2_with fail
  go_loopw [3, 4, 14] (fun n i _ wr => ∃ j : Nat, j ≤ nP s.H s.S ∧ i = .int .i64 j ∧ n = .int .i64 (sumN (fun i => (s.P i).waits.length) j) ∧ Below w.heap.size w wr) (fun _ i _ _ => nP s.H s.S - (intOf i).toNat)
  case atStart => exact ⟨0, by omega, rfl, rfl, Below.refl _ _⟩
  case round =>
    obtain ⟨j, hj, rfl, rfl, hb9⟩ := hrel
    have B1 := Lib.hid hb9
    have hb : sumN (fun i => (s.P i).waits.length) j ≤ 48 * 900000 := Nat.le_trans (HW.out j hj) (Nat.mul_le_mul (by omega) (by omega))
    have F1 := Lib.hid (HF.out.below hb9)
    clear hb9
    rename World => wi
    by_cases hlt : j < nP s.H s.S
    · obtain ⟨p0, p1, p2, p3⟩ := F1.out.pcell
      obtain ⟨l0', c0', c1', c2', c3'⟩ := F1.out.cells
      have pk := p3 j hlt
      have hwj := (HL.out.p j hlt).w
      clear p3 c0' c2' c3'
      have HS := Lib.hid (show sumN (fun i => (s.P i).waits.length) (j + 1) = sumN (fun i => (s.P i).waits.length) j + (s.P j).waits.length from rfl)
      generalize sumN (fun i => (s.P i).waits.length) j = u at *
      go_wp2_with fail
      refine (mwait _ _ _ _ N wi (F1.out.po j hlt) (HL.out.p j hlt) hN).mono ?_
      rintro e w2 ⟨v, rfl, how, hb2⟩
      obtain ⟨av, cv, rfl, _, _⟩ := (Rd.of_own how).form
      have B2 := Lib.hid (B1.out.trans (hb2.mono B1.out.size))
      clear how hb2
      go_wp2_with fail
      go_roundw
      case rel => exact ⟨j + 1, by omega, by go_num, by rw [HS.out]; go_num, B2.out⟩
      case measure => simp [intOf]; omega
    · obtain rfl : j = nP s.H s.S := by omega
      obtain ⟨l0', c0', c1', c2', c3'⟩ := F1.out.cells
      generalize hu : sumN (fun i => (s.P i).waits.length) (nP s.H s.S) = u at *
      have HU := Lib.hid hu
      clear hu l0 c0 c1 c2 c3 c0' c3'
      go_wp2_with fail
      go_loopw [3, 5, 34] (fun n i _ wr => ∃ j : Nat, j ≤ s.H ∧ i = .int .i64 j ∧ n = .int .i64 ((u + sumN (fun i => (s.A i).length) j : Nat) : Int) ∧ wr = wi) (fun _ i _ _ => s.H - (intOf i).toNat)
      case atStart => exact ⟨0, by omega, rfl, rfl, rfl⟩
      case round =>
        obtain ⟨j, hj, rfl, rfl, rfl⟩ := hrel
        have hb2 : sumN (fun i => (s.A i).length) j ≤ 8 * 100000 := Nat.le_trans (HA.out j hj) (Nat.mul_le_mul (by omega) (by omega))
        by_cases hlt : j < s.H
        · obtain ⟨p0, p1, p2⟩ := F1.out.acell
          obtain ⟨a, c, hv, hc1, hc2⟩ := F1.out.row_form hlt
          have pk := (p1 j hlt).trans (congrArg some hv)
          have hwj := HL.out.a j hlt
          clear p1 p2 hv
          have HS := Lib.hid (show sumN (fun i => (s.A i).length) (j + 1) = sumN (fun i => (s.A i).length) j + (s.A j).length from rfl)
          generalize sumN (fun i => (s.A i).length) j = u2 at *
          go_wp2_with fail
          go_roundw
          case rel => exact ⟨j + 1, by omega, by go_num, by rw [HS.out]; go_num, trivial⟩
          case measure => simp [intOf]; omega
        · obtain rfl : j = s.H := by omega
          go_wp2_with fail
          go_ret
          exact ⟨by unfold Ms.waitN Ms.arrN; rw [HU.out]; rfl, B1.out⟩
set_option maxRecDepth 100000 in
set_option maxHeartbeats 4000000 in
theorem mf_bytes (h : Mf m l s w) {k : Nat} (ho : s.ok N) (hN : N ≤ 100000) : Calls Try.prog 59 #[.pointer (some ⟨m, 0, none⟩), .int .i64 k] w fun e w' => e = .returned (.int .i64 (mbyN k s.P (nP s.H s.S))) ∧ Below w.heap.size w w' := by
  have HF := Lib.hid h
  have HO := Lib.hid ho
  obtain ⟨hnp1, hnp2⟩ := h.hs.np
  have HB := Lib.hid (mbyN_b ho (k : Int))
  clear h ho
  obtain ⟨l0, c0, c1, c2, c3⟩ := HF.out.cells
  go_enter Try.func59, Try.ntmps59
  go_wp2_with fail
  go_loopw [5, 6, 17] (fun n i _ wr => ∃ j : Nat, j ≤ nP s.H s.S ∧ i = .int .i64 j ∧ n = .int .i64 (mbyN k s.P j) ∧ Below w.heap.size w wr) (fun _ i _ _ => nP s.H s.S - (intOf i).toNat)
  case atStart => exact ⟨0, by omega, rfl, rfl, Below.refl _ _⟩
  case round =>
    obtain ⟨j, hj, rfl, rfl, hb⟩ := hrel
    have B1 := Lib.hid hb
    have F1 := Lib.hid (HF.out.below hb)
    have hbj := HB.out j hj
    have hjN : (j : Int) * (N : Int) ≤ 4800000 := by
      have h1 : j * N ≤ 48 * 100000 := Nat.mul_le_mul (by omega) hN
      have h2 : ((j * N : Nat) : Int) ≤ 4800000 := by omega
      push_cast at h2
      exact h2
    have hbj1 : 0 ≤ mbyN k s.P j ∧ mbyN k s.P j ≤ 43200000000000 := by omega
    clear hb hbj hjN l0 c0 c1 c2 c3
    rename World => wi
    obtain ⟨l0, c0, c1, c2, c3⟩ := F1.out.cells
    clear c0 c2 c3
    by_cases hlt : j < nP s.H s.S
    · obtain ⟨p0, p1, p2, p3⟩ := F1.out.pcell
      have pk := p3 j hlt
      have hpo := HO.out.p j hlt
      have HPO := Lib.hid hpo
      have hle := hpo.w
      clear p3 hpo
      go_wp2_with fail
      refine (mwait _ _ _ _ N wi (F1.out.po j hlt) HPO.out hN).mono ?_
      rintro e w2 ⟨v, rfl, hov, hb2⟩
      obtain ⟨av, cv, rfl, _, _⟩ := (Rd.of_own hov).form
      have OV := Lib.hid hov
      have B2 := Lib.hid (B1.out.trans (hb2.mono B1.out.size))
      obtain ⟨Y, hY⟩ : ∃ Y, Hid ((s.P j).waits = Y) := ⟨_, Lib.hid rfl⟩
      have HSB := Lib.hid (show mbyN k s.P (j + 1) = mbyN k s.P j + byL k Y by rw [mbyN, hY.out])
      have HYO := Lib.hid (show ∀ x, x ∈ Y → x.ok2 from fun x hx => HPO.out.items _ (mem_mwaits (by rw [hY.out]; exact hx)))
      rw [hY.out] at OV hle ⊢
      have hyl : Y.length ≤ 900000 := by omega
      clear hov hb2 hY
      generalize hub : mbyN k s.P j = u at *
      clear hub l0 c1
      go_wp2_with fail
      go_loopw [5, 8, 31] (fun n i _ wr => ∃ j2 : Nat, j2 ≤ Y.length ∧ i = .int .i64 j2 ∧ n = .int .i64 (u + byL k (Y.take j2)) ∧ Below w2.heap.size w2 wr) (fun _ i _ _ => Y.length - (intOf i).toNat)
      case atStart => exact ⟨0, by omega, rfl, by simp [byL], Below.refl _ _⟩
      case round =>
        obtain ⟨j2, hj2, rfl, rfl, hb3⟩ := hrel
        have B3 := Lib.hid hb3
        have hb4 := byL_b2 (h := (k : Int)) (Y.take j2) fun x hx => HYO.out x (List.mem_of_mem_take hx)
        rw [List.length_take, Nat.min_eq_left hj2] at hb4
        clear hb3
        rename World => wk
        by_cases hlt2 : j2 < Y.length
        · obtain ⟨g, o, hgo, hg, hc⟩ := (Rd.of_own (below_own OV.out B3.out)).row rowIt (by decide) j2 hlt2
          cases hgo
          have hxo := (HYO.out _ (List.getElem_mem hlt2)).len
          have HS := Lib.hid (show byL k (Y.take (j2 + 1)) = byL k (Y.take j2) + by1 k Y[j2] by rw [List.take_succ_eq_append_getElem hlt2, byL_app, byL_cons, byL_nil]; omega)
          generalize Y[j2] = x at hc HS hxo
          generalize byL k (Y.take j2) = t at *
          have c0 := hc 0 _ rfl
          have c2 := hc 2 _ rfl
          have c6 := hc 6 _ rfl
          rw [Nat.add_zero] at c0
          clear hc
          obtain ⟨hx1, hx2⟩ := hxo
          by_cases hkd : x.kind = 1
          · have hkb : (x.kind == 1) = true := beq_iff_eq.2 hkd
            by_cases hds : x.dst = k
            · have hdb : (x.dst == (k : Int)) = true := beq_iff_eq.2 hds
              have HV := Lib.hid (show by1 k x = x.len by unfold by1; rw [if_pos ⟨hkd, hds⟩])
              clear hkd hds
              go_wp2_with fail
              go_roundw
              case rel => exact ⟨j2 + 1, by omega, by go_num, by rw [HS.out, HV.out]; congr 1; omega, B3.out⟩
              case measure => simp [intOf]; omega
            · have hdb : (x.dst == (k : Int)) = false := beq_eq_false_iff_ne.2 hds
              have HV := Lib.hid (show by1 k x = 0 by unfold by1; rw [if_neg fun hh => hds hh.2])
              clear hkd hds
              go_wp2_with fail
              go_roundw
              case rel => exact ⟨j2 + 1, by omega, by go_num, by rw [HS.out, HV.out]; congr 1; omega, B3.out⟩
              case measure => simp [intOf]; omega
          · have hkb : (x.kind == 1) = false := beq_eq_false_iff_ne.2 hkd
            have HV := Lib.hid (show by1 k x = 0 by unfold by1; rw [if_neg fun hh => hkd hh.1])
            clear hkd
            go_wp2_with fail
            go_roundw
            case rel => exact ⟨j2 + 1, by omega, by go_num, by rw [HS.out, HV.out]; congr 1; omega, B3.out⟩
            case measure => simp [intOf]; omega
        · obtain rfl : j2 = Y.length := by omega
          have HTK := Lib.hid (show Y.take Y.length = Y from List.take_length)
          rw [HTK.out]
          go_wp2_with fail
          go_roundw
          case rel => exact ⟨j + 1, by omega, by go_num, by rw [HSB.out], B2.out.trans (B3.out.mono B2.out.size)⟩
          case measure => simp [intOf]; omega
    · obtain rfl : j = nP s.H s.S := by omega
      go_wp2_with fail
      go_ret
      exact ⟨rfl, B1.out⟩
end
end Go.Proofs.Ytoihhidoafgoaaa
