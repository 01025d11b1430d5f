/- PortTrims: the plain law and the walk. -/
import Derived.Test.YthgkminjhpaakaaPoG
import Derived.Test.YthgkminjhpaakaaPoI
import Derived.Test.YthgkminjhpaakaaPoB
namespace Go.Proofs.Ythgkminjhpaakaa
open Go.RowKit

theorem Like.at {Y W : List It} (h : Like Y W) (j : Nat) (hj : j < Y.length) : ∃ hW : j < W.length, (Y[j]).plain = (W[j]).plain := by
  have hl := h.len
  refine ⟨by omega, ?_⟩
  unfold Like at h
  have h1 := congrArg (fun l => l[j]?) h
  simp only [List.getElem?_map] at h1
  rw [List.getElem?_eq_getElem hj, List.getElem?_eq_getElem (by omega)] at h1
  simpa using h1
structure Jt (rm n k : Nat) (tr : Bool) (p : Pp) : Prop where
  room : p.room = rm
  trim : p.trim = tr
  C : p.C = []
  u : 0 ≤ p.u ∧ p.u ≤ rm
  l7 : ∀ x ∈ p.L 7, x.kind = 7 ∧ x.prio = 7 ∧ x.len = n ∧ x.dn = 0
  l0 : ∀ x ∈ p.L 0, x.kind = 1 ∧ x.dn = n
  oth : ∀ i, 0 < i → i < 7 → p.L i = []
  len7 : (p.L 7).length ≤ k
  len0 : (p.L 0).length ≤ k
theorem Jt.more {room n k : Nat} {trim : Bool} {p : Pp} (h : Jt room n k trim p) : Jt room n (k + 1) trim p := ⟨h.room, h.trim, h.C, h.u, h.l7, h.l0, h.oth, by have := h.len7; omega, by have := h.len0; omega⟩
theorem Jt.waits {room n k : Nat} {trim : Bool} {p : Pp} (h : Jt room n k trim p) : p.waits = p.L 7 ++ p.L 0 := by
  unfold Pp.waits
  rw [h.C]
  simp [wfrom, h.oth 6, h.oth 5, h.oth 4, h.oth 3, h.oth 2, h.oth 1]
theorem Jt.line {room n k : Nat} {trim : Bool} {p : Pp} (h : Jt room n k trim p) {y : It} (h1 : y.kind = 1) (h2 : y.dn = n) (s : Int) (h3 : 0 ≤ s) (h4 : p.u + s ≤ room) : Jt room n (k + 1) trim { p with u := p.u + s, L := upd p.L 0 (p.L 0 ++ [y]) } := by
  refine ⟨h.room, h.trim, h.C, by show 0 ≤ p.u + s ∧ p.u + s ≤ room; have := h.u; omega, fun x hx => ?_, fun x hx => ?_, fun i hi hi7 => ?_, ?_, ?_⟩
  · replace hx : x ∈ upd p.L 0 (p.L 0 ++ [y]) 7 := hx
    rw [show upd p.L 0 (p.L 0 ++ [y]) 7 = p.L 7 from upd_other _ _ (by decide)] at hx
    exact h.l7 x hx
  · replace hx : x ∈ upd p.L 0 (p.L 0 ++ [y]) 0 := hx
    rw [show upd p.L 0 (p.L 0 ++ [y]) 0 = p.L 0 ++ [y] from upd_same _ _ _] at hx
    rcases List.mem_append.1 hx with hx | hx
    · exact h.l0 x hx
    · rw [List.mem_singleton.1 hx]; exact ⟨h1, h2⟩
  · show upd p.L 0 (p.L 0 ++ [y]) i = []
    rw [upd_other _ _ (by omega)]
    exact h.oth i hi hi7
  · show (upd p.L 0 (p.L 0 ++ [y]) 7).length ≤ _
    rw [upd_other _ _ (by decide)]
    have := h.len7
    omega
  · show (upd p.L 0 (p.L 0 ++ [y]) 0).length ≤ _
    rw [upd_same, List.length_append, List.length_singleton]
    have := h.len0
    omega
theorem Jt.head {room n k : Nat} {trim : Bool} {p : Pp} (h : Jt room n k trim p) {y : It} (h1 : y.kind = 7) (h2 : y.prio = 7) (h3 : y.len = n) (h5 : y.dn = 0) (h4 : p.u + 26 ≤ room) : Jt room n (k + 1) trim { p with u := p.u + 26, L := upd p.L 7 (p.L 7 ++ [y]) } := by
  refine ⟨h.room, h.trim, h.C, by show 0 ≤ p.u + 26 ∧ p.u + 26 ≤ room; have := h.u; omega, fun x hx => ?_, fun x hx => ?_, fun i hi hi7 => ?_, ?_, ?_⟩
  · replace hx : x ∈ upd p.L 7 (p.L 7 ++ [y]) 7 := hx
    rw [show upd p.L 7 (p.L 7 ++ [y]) 7 = p.L 7 ++ [y] from upd_same _ _ _] at hx
    rcases List.mem_append.1 hx with hx | hx
    · exact h.l7 x hx
    · rw [List.mem_singleton.1 hx]; exact ⟨h1, h2, h3, h5⟩
  · replace hx : x ∈ upd p.L 7 (p.L 7 ++ [y]) 0 := hx
    rw [show upd p.L 7 (p.L 7 ++ [y]) 0 = p.L 0 from upd_other _ _ (by decide)] at hx
    exact h.l0 x hx
  · show upd p.L 7 (p.L 7 ++ [y]) i = []
    rw [upd_other _ _ (by omega)]
    exact h.oth i hi hi7
  · show (upd p.L 7 (p.L 7 ++ [y]) 7).length ≤ _
    rw [upd_same, List.length_append, List.length_singleton]
    have := h.len7
    omega
  · show (upd p.L 7 (p.L 7 ++ [y]) 0).length ≤ _
    rw [upd_other _ _ (by decide)]
    have := h.len0
    omega
def dt (k n : Nat) (a : Option Addr) (c : Nat) (bs : List UInt8) : It := ⟨1, 0, 1, 0, k, 0, n, n, 0, a, n, c, 0, bs⟩
theorem dt_sz (k n : Nat) (a : Option Addr) (c : Nat) (bs : List UInt8) (h : n ≤ 500) : (dt k n a c bs).sz = 26 + n := by
  have h1 : (dt k n a c bs).bytes = 26 + n := rfl
  unfold It.sz
  rw [h1]
  unfold clampI
  split
  · omega
  · split <;> omega
set_option maxRecDepth 100000 in
set_option maxHeartbeats 4000000 in
theorem trims_in (room n N : Nat) (trim : Bool) (w : World) (hroom : room ≤ 5000) (hn1 : 1 ≤ n) (hn2 : n ≤ 500) (hN : N ≤ 40) : Calls Try.prog 5 #[.int .i64 room, .int .i64 n, .int .i64 N, .bool trim] w (TrueBelow w) := by
  go_enter Try.func5, Try.ntmps5
  go_wp2_with fail
  refine (new_pt room 1 trim w (by omega) (by omega)).mono ?_
  rintro e w1 ⟨b, l1, rfl, hp1, hb1⟩
  have P1 := Lib.hid hp1
  have B1 := Lib.hid hb1
  clear hp1 hb1
  go_wp2_with fail
  go_loopw [11, 12, 13, 14, 15] (fun us i _ _ _ wr => ∃ (k : Nat) (l : Pl) (p : Pp), k ≤ N ∧ i = .int .i64 k ∧ us = .int .i64 p.u ∧ Po b w.heap.size l p wr ∧ Jt room n k trim p ∧ Below w.heap.size w wr) (fun _ i _ _ _ _ => N - (intOf i).toNat)
  case atStart => exact ⟨0, l1, _, by omega, rfl, rfl, P1.out, ⟨rfl, rfl, rfl, by show (0 : Int) ≤ 0 ∧ (0 : Int) ≤ room; omega, fun x hx => (by cases hx), fun x hx => (by cases hx), fun i _ _ => rfl, Nat.le_refl _, Nat.le_refl _⟩, B1.out⟩
  case round =>
    obtain ⟨k, l, p, hk, rfl, rfl, hp, hj, hb⟩ := hrel
    have P2 := Lib.hid hp
    have J2 := Lib.hid hj
    have B2 := Lib.hid hb
    clear hp hj hb
    rename World => wi
    have hu := J2.out.u
    by_cases hlt : k < N
    · go_wp2_with fail
      refine (block_any n k _ ⟨hn1, hn2⟩).mono ?_
      rintro e w3 ⟨a3, c3, bs, rfl, ho3, hb3⟩
      have P3 := Lib.hid (P2.out.below hb3)
      have B3 := Lib.hid (B2.out.trans (hb3.mono B2.out.size))
      have R3 := Lib.hid (Rd.of_own ho3)
      clear ho3 hb3
      go_upto_region 11 with fail
      have OX := Lib.hid (Ob.new w3 #[.int .i64 1, .int .i64 0, .int .i64 1, .int .i64 0, .int .u64 k, .int .i64 0, .int .i64 n, .int .i64 n, .int .i64 0, .slice a3 n c3] TFr)
      have KA : Hid (Below w3.heap.size w3 (w3.alloc (.cells #[.int .i64 1, .int .i64 0, .int .i64 1, .int .i64 0, .int .u64 k, .int .i64 0, .int .i64 n, .int .i64 n, .int .i64 0, .slice a3 n c3] TFr))) := Lib.hid ((Below.refl _ w3).alloc (Nat.le_refl _) _)
      have P4 := Lib.hid (P3.out.below KA.out)
      have R4 := Lib.hid (R3.out.below KA.out)
      have B4 := Lib.hid (B3.out.trans (KA.out.mono B3.out.size))
      obtain ⟨X, HX⟩ : ∃ X, Hid (w3.heap.size = X) := ⟨_, Lib.hid rfl⟩
      rw [HX.out] at OX ⊢
      clear KA
      generalize w3.alloc (.cells #[.int .i64 1, .int .i64 0, .int .i64 1, .int .i64 0, .int .u64 k, .int .i64 0, .int .i64 n, .int .i64 n, .int .i64 0, .slice a3 n c3] TFr) = w4 at *
      have lX := OX.out.lt
      have cells := (OX.out.blk).2.1
      have cX0 : w4.cell? ⟨X, 0, none⟩ = some (.int .i64 1) := cells 0
      have cX1 : w4.cell? ⟨X, 1, none⟩ = some (.int .i64 0) := cells 1
      have cX2 : w4.cell? ⟨X, 2, none⟩ = some (.int .i64 1) := cells 2
      have cX3 : w4.cell? ⟨X, 3, none⟩ = some (.int .i64 0) := cells 3
      have cX4 : w4.cell? ⟨X, 4, none⟩ = some (.int .u64 k) := cells 4
      have cX5 : w4.cell? ⟨X, 5, none⟩ = some (.int .i64 0) := cells 5
      have cX6 : w4.cell? ⟨X, 6, none⟩ = some (.int .i64 n) := cells 6
      have cX7 : w4.cell? ⟨X, 7, none⟩ = some (.int .i64 n) := cells 7
      have cX8 : w4.cell? ⟨X, 8, none⟩ = some (.int .i64 0) := cells 8
      have cX9 : w4.cell? ⟨X, 9, none⟩ = some (.slice a3 n c3) := cells 9
      clear cells
      have hdn : (dt k n a3 c3 bs).dn ≤ 1073741824 := show n ≤ 1073741824 by omega
      have hxl : -1000000000 ≤ (dt k n a3 c3 bs).len ∧ (dt k n a3 c3 bs).len ≤ 1073741824 := show -1000000000 ≤ (n : Int) ∧ (n : Int) ≤ 1073741824 by omega
      have hrm : 0 ≤ p.room ∧ p.room ≤ 1099511627776 := by rw [J2.out.room]; omega
      have huu : 0 ≤ p.u ∧ p.u ≤ p.room := by rw [J2.out.room]; exact hu
      have hsz := dt_sz k n a3 c3 bs hn2
      have HDN := Lib.hid hdn
      have HXL := Lib.hid hxl
      have HRM := Lib.hid hrm
      have HUU := Lib.hid huu
      have HSZ := Lib.hid hsz
      clear hdn hxl hrm huu hsz
      by_cases hA : p.u + 26 + n ≤ room
      · go_wp2_with fail
        refine (put_line b w.heap.size l p 0 (dt k n a3 c3 bs) _ P4.out R4.out HDN.out rfl HXL.out (by decide) rfl HRM.out HUU.out (by rw [J2.out.room, HSZ.out]; omega) (by have := J2.out.len0; omega)).mono ?_
        rintro e w5 ⟨rfl, a5, c5, l5, hp5, hk5, _⟩
        rw [HSZ.out] at hp5
        have B5 := Lib.hid (B4.out.trans (hk5.belowAt B4.out.size fun y hy => P4.out.ge hy))
        obtain ⟨p5, HU5, P5, J5⟩ : ∃ p5 : Pp, Hid (p5.u = p.u + (26 + (n : Int))) ∧ Hid (Po b w.heap.size l5 p5 w5) ∧ Hid (Jt room n (k + 1) trim p5) := ⟨_, Lib.hid rfl, Lib.hid hp5, Lib.hid (J2.out.line (y := (dt k n a3 c3 bs).data a5 c5) rfl rfl (26 + (n : Int)) (by omega) (by omega))⟩
        clear hp5 hk5
        go_wp2_with fail
        refine (used_pt b _ l5 _ _ P5.out).mono ?_
        rintro e w6 ⟨rfl, rfl⟩
        rw [HU5.out]
        go_wp2_with fail
        go_roundw
        case rel => exact ⟨k + 1, l5, _, by omega, by go_num, by rw [HU5.out], P5.out, J5.out, B5.out⟩
        case measure => simp [intOf]; omega
      · cases trim
        · go_wp2_with fail
          refine (put_drop b w.heap.size l p 0 (dt k n a3 c3 bs) _ P4.out R4.out HDN.out rfl HXL.out (by decide) rfl HRM.out HUU.out (by rw [J2.out.room, HSZ.out]; omega) (.inr ⟨rfl, J2.out.trim⟩)).mono ?_
          rintro e w5 ⟨rfl, hb5⟩
          have P5 := Lib.hid (P4.out.below hb5)
          have B5 := Lib.hid (B4.out.trans (hb5.mono B4.out.size))
          clear hb5
          go_wp2_with fail
          refine (used_pt b _ l p _ P5.out).mono ?_
          rintro e w6 ⟨rfl, rfl⟩
          go_wp2_with fail
          go_roundw
          case rel => exact ⟨k + 1, l, p, by omega, by go_num, by go_num, P5.out, J2.out.more, B5.out⟩
          case measure => simp [intOf]; omega
        · by_cases hB : p.u + 26 ≤ room
          · go_wp2_with fail
            refine (put_trim b w.heap.size l p 0 (dt k n a3 c3 bs) _ P4.out R4.out HDN.out rfl HXL.out (by decide) rfl HRM.out HUU.out (by rw [J2.out.room, HSZ.out]; omega) rfl J2.out.trim (by rw [J2.out.room]; omega) (by have := J2.out.len7; omega)).mono ?_
            rintro e w5 ⟨rfl, l5, hp5, hk5, _⟩
            have B5 := Lib.hid (B4.out.trans (hk5.belowAt B4.out.size fun y hy => P4.out.ge hy))
            obtain ⟨p5, HU5, P5, J5⟩ : ∃ p5 : Pp, Hid (p5.u = p.u + 26) ∧ Hid (Po b w.heap.size l5 p5 w5) ∧ Hid (Jt room n (k + 1) true p5) := ⟨_, Lib.hid rfl, Lib.hid hp5, Lib.hid (J2.out.head (y := (dt k n a3 c3 bs).hdr 7) rfl rfl rfl rfl (by omega))⟩
            clear hp5 hk5
            go_wp2_with fail
            refine (used_pt b _ l5 _ _ P5.out).mono ?_
            rintro e w6 ⟨rfl, rfl⟩
            rw [HU5.out]
            go_wp2_with fail
            go_roundw
            case rel => exact ⟨k + 1, l5, _, by omega, by go_num, by rw [HU5.out], P5.out, J5.out, B5.out⟩
            case measure => simp [intOf]; omega
          · go_wp2_with fail
            refine (put_trimno b w.heap.size l p 0 (dt k n a3 c3 bs) _ P4.out R4.out HDN.out rfl HXL.out (by decide) rfl HRM.out HUU.out (by rw [J2.out.room, HSZ.out]; omega) rfl J2.out.trim (by rw [J2.out.room]; omega)).mono ?_
            rintro e w5 ⟨rfl, hb5⟩
            have P5 := Lib.hid (P4.out.below hb5)
            have B5 := Lib.hid (B4.out.trans (hb5.mono B4.out.size))
            clear hb5
            go_wp2_with fail
            refine (used_pt b _ l p _ P5.out).mono ?_
            rintro e w6 ⟨rfl, rfl⟩
            go_wp2_with fail
            go_roundw
            case rel => exact ⟨k + 1, l, p, by omega, by go_num, by go_num, P5.out, J2.out.more, B5.out⟩
            case measure => simp [intOf]; omega
    · obtain rfl : k = N := by omega
      have HW := Lib.hid (wait_pt b w.heap.size l p wi P2.out (fun i hi => by
        have h0 := J2.out.len0
        have h7 := J2.out.len7
        by_cases hi0 : i = 0
        · subst hi0; omega
        · by_cases hi7 : i = 7
          · subst hi7; omega
          · rw [J2.out.oth i (by omega) (by omega)]; simp) (by rw [J2.out.C]; simp) (fun x hx => by
        rcases hx with hx | ⟨i, hi, hx⟩
        · rw [J2.out.C] at hx; cases hx
        · by_cases hi0 : i = 0
          · subst hi0; have := (J2.out.l0 x hx).2; omega
          · by_cases hi7 : i = 7
            · subst hi7; have := (J2.out.l7 x hx).2.2.2; omega
            · rw [J2.out.oth i (by omega) (by omega)] at hx; cases hx))
      rw [J2.out.waits] at HW
      go_wp2_with fail
      refine (HW.out).mono ?_
      rintro e w3 ⟨v3, rfl, ⟨Y, hY, ho, hd⟩, hb3⟩
      have HY := Lib.hid hY
      have HO := Lib.hid ho
      have B3 := Lib.hid (B2.out.trans (hb3.mono B2.out.size))
      obtain ⟨a3, c3, rfl, _, _⟩ := (Rd.of_own ho).form
      have hYl : Y.length ≤ 80 := by have := hY.len; rw [List.length_append] at this; have := J2.out.len0; have := J2.out.len7; omega
      clear hY ho hd hb3
      go_wp2_with fail
      go_loopw [17, 18] (fun d i wr => ∃ j : Nat, j ≤ Y.length ∧ i = .int .i64 j ∧ d = .bool (decide ((p.L 7).length < j)) ∧ Below w3.heap.size w3 wr) (fun _ i _ => Y.length - (intOf i).toNat)
      case atStart => exact ⟨0, by omega, rfl, rfl, Below.refl _ _⟩
      case round =>
        obtain ⟨j, hj, rfl, rfl, hb⟩ := hrel
        have HB := Lib.hid hb
        clear hb
        rename World => wj
        by_cases hlt2 : j < Y.length
        · obtain ⟨g, o, hgo, hg, hc⟩ := ((Rd.of_own HO.out).below HB.out).row rowIt (by decide) j hlt2
          cases hgo
          obtain ⟨hW, hpl⟩ := HY.out.at j hlt2
          generalize Y[j] = y at hc hpl
          have c0 := hc 0 _ rfl
          have c3' := hc 3 _ rfl
          have c6 := hc 6 _ rfl
          have c9 := hc 9 _ rfl
          rw [Nat.add_zero] at c0
          clear hc
          by_cases hjA : j < (p.L 7).length
          · have hm : (p.L 7 ++ p.L 0)[j] ∈ p.L 7 := by rw [List.getElem_append_left hjA]; exact List.getElem_mem _
            obtain ⟨q1, q2, q3, q4⟩ := J2.out.l7 _ hm
            have k1 : y.kind = 7 := (congrArg It.kind hpl).trans q1
            have k2 : y.prio = 7 := (congrArg It.prio hpl).trans q2
            have k3 : y.len = n := (congrArg It.len hpl).trans q3
            have k4 : y.dn = 0 := (congrArg It.dn hpl).trans q4
            rw [k1] at c0
            rw [k2] at c3'
            rw [k3] at c6
            rw [k4] at c9
            rw [decide_eq_false (show ¬ (p.L 7).length < j by omega)]
            clear q1 q2 q3 q4 k1 k2 k3 k4 hm hpl hW
            go_wp2_with fail
            go_roundw
            case rel => exact ⟨j + 1, by omega, by go_num, by rw [decide_eq_false (show ¬ (p.L 7).length < j + 1 by omega)], HB.out⟩
            case measure => simp [intOf]; omega
          · have hm : (p.L 7 ++ p.L 0)[j] ∈ p.L 0 := by rw [List.getElem_append_right (by omega)]; exact List.getElem_mem _
            obtain ⟨q1, q2⟩ := J2.out.l0 _ hm
            have k1 : y.kind = 1 := (congrArg It.kind hpl).trans q1
            rw [k1] at c0
            clear q1 q2 k1 hm hpl hW c3' c6 c9
            by_cases hjd : (p.L 7).length < j
            · rw [decide_eq_true hjd]
              go_wp2_with fail
              go_roundw
              case rel => exact ⟨j + 1, by omega, by go_num, by rw [decide_eq_true (show (p.L 7).length < j + 1 by omega)], HB.out⟩
              case measure => simp [intOf]; omega
            · rw [decide_eq_false hjd]
              go_wp2_with fail
              go_roundw
              case rel => exact ⟨j + 1, by omega, by go_num, by rw [decide_eq_true (show (p.L 7).length < j + 1 by omega)], HB.out⟩
              case measure => simp [intOf]; omega
        · obtain rfl : j = Y.length := by omega
          go_wp2_with fail
          refine (awake_w _).mono ?_
          rintro e w9 ⟨rfl, hb9⟩
          have B9 := Lib.hid ((B3.out.trans (HB.out.mono B3.out.size)).trans (hb9.mono (Nat.le_trans B3.out.size HB.out.size)))
          clear hb9
          go_wp2_with fail
          go_ret
          exact ⟨rfl, B9.out⟩
set_option maxRecDepth 100000 in
set_option maxHeartbeats 2000000 in
theorem trims_law (room n N : Int) (trim : Bool) (w : World) : Calls Try.prog 5 #[.int .i64 room, .int .i64 n, .int .i64 N, .bool trim] w (TrueBelow w) := by
  by_cases hr : 0 ≤ room ∧ room ≤ 5000 ∧ 1 ≤ n ∧ n ≤ 500 ∧ 0 ≤ N ∧ N ≤ 40
  case neg =>
    have hc : room < 0 ∨ (0 ≤ room ∧ 5000 < room) ∨ (0 ≤ room ∧ room ≤ 5000 ∧ n < 1) ∨ (0 ≤ room ∧ room ≤ 5000 ∧ 1 ≤ n ∧ 500 < n) ∨ (0 ≤ room ∧ room ≤ 5000 ∧ 1 ≤ n ∧ n ≤ 500 ∧ N < 0) ∨ (0 ≤ room ∧ room ≤ 5000 ∧ 1 ≤ n ∧ n ≤ 500 ∧ 0 ≤ N ∧ 40 < N) := by omega
    clear hr
    rcases hc with h1 | ⟨h1, h2⟩ | ⟨h1, h2, h3⟩ | ⟨h1, h2, h3, h4⟩ | ⟨h1, h2, h3, h4, h5⟩ | ⟨h1, h2, h3, h4, h5, h6⟩
    all_goals
      go_enter Try.func5, Try.ntmps5
      go_wp2_with fail
      refine (awake_w _).mono ?_
      rintro e w6 ⟨rfl, hb6⟩
      go_wp2_with fail
      go_ret
      exact ⟨rfl, hb6⟩
  case pos =>
    obtain ⟨a1, a2, a3, a4, a5, a6⟩ := hr
    obtain ⟨R, rfl⟩ := Int.eq_ofNat_of_zero_le a1
    obtain ⟨n, rfl⟩ := Int.eq_ofNat_of_zero_le (show 0 ≤ n by omega)
    obtain ⟨N, rfl⟩ := Int.eq_ofNat_of_zero_le a5
    exact trims_in R n N trim w (by omega) (by omega) (by omega) (by omega)
end Go.Proofs.Ythgkminjhpaakaa
