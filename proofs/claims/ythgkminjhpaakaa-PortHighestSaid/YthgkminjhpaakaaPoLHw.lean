/- PortHighest: the walk. -/
import Derived.Test.YthgkminjhpaakaaPoLH
namespace Go.Proofs.Ythgkminjhpaakaa
open Go.RowKit

set_option maxRecDepth 100000 in
set_option maxHeartbeats 4000000 in
theorem highest_law (z : List Int) (v : Value) (c : Int) (w : World) (h : Rd w 1 v z.length (z.map (Value.int .i64))) (wz : ∀ x ∈ z, -9223372036854775808 ≤ x ∧ x ≤ 9223372036854775807) : Calls Try.prog 4 #[v, .int .i64 c] w (TrueBelow w) := by
  obtain ⟨a, ca, rfl, hac, hac2⟩ := h.form
  have HR := Lib.hid h
  have WZ := Lib.hid wz
  clear h wz
  by_cases hr : z.length ≤ 60 ∧ 0 ≤ c ∧ c ≤ 20
  case neg =>
    have hc : 60 < z.length ∨ (z.length ≤ 60 ∧ c < 0) ∨ (z.length ≤ 60 ∧ 0 ≤ c ∧ 20 < c) := by omega
    clear hr
    rcases hc with h1 | ⟨h1, h2⟩ | ⟨h1, h2, h3⟩
    all_goals
      go_enter Try.func4, Try.ntmps4
      go_wp2_with fail
      refine (awake_w _).mono ?_
      rintro e w6 ⟨rfl, hb6⟩
      go_wp2_with fail
      go_ret
      exact ⟨rfl, hb6⟩
  case pos =>
    obtain ⟨hz, hc0, hc1⟩ := hr
    obtain ⟨K, rfl⟩ := Int.eq_ofNat_of_zero_le hc0
    go_enter Try.func4, Try.ntmps4
    go_wp2_with fail
    refine (new_pt 1048576 20 false w (by omega) (by omega)).mono ?_
    rintro e w1 ⟨b, l1, rfl, hp1, hb1⟩
    have P1 := Lib.hid hp1
    have B1 := Lib.hid hb1
    clear hp1 hb1
    go_wp2_with fail
    go_loopw [7] (fun i wr => ∃ (k : Nat) (l : Pl) (p : Pp), k ≤ z.length ∧ i = .int .i64 k ∧ Po b w.heap.size l p wr ∧ J1 k 0 p ∧ Below w.heap.size w wr) (fun i _ => z.length - (intOf i).toNat)
    case atStart => exact ⟨0, l1, _, by omega, rfl, P1.out, ⟨rfl, rfl, rfl, rfl, rfl, fun j y hj => by simp [newP] at hj, rfl, ⟨fun q _ x hx => (by cases hx), fun q _ => List.Pairwise.nil, rfl⟩⟩, B1.out⟩
    case round =>
      obtain ⟨k, l, p, hk, rfl, hp, hj, hb⟩ := hrel
      have P2 := Lib.hid hp
      have J2 := Lib.hid hj
      have B2 := Lib.hid hb
      clear hp hj hb
      rename World => wi
      by_cases hlt : k < z.length
      · obtain ⟨bo, oo, rfl, c0⟩ := (HR.out.below B2.out).at k hlt
        have hxw := WZ.out _ (List.getElem_mem hlt)
        obtain ⟨x, HX⟩ : ∃ x, Hid (z[k] = x) := ⟨_, Lib.hid rfl⟩
        rw [HX.out] at c0 hxw
        obtain ⟨q, hq8, HQ⟩ : ∃ q : Nat, q < 8 ∧ Hid (x % 8 = q) := ⟨(x % 8).toNat, by omega, Lib.hid (by omega)⟩
        go_wp2_with fail
        refine (round_any x 8 _ (by omega) (by omega)).mono ?_
        rintro e w2 ⟨rfl, rfl⟩
        rw [HQ.out]
        go_wp2_with fail
        refine (put_line b w.heap.size l p q (aq q k) _ P2.out (Rd.nil _ _) (show (0 : Nat) ≤ 1073741824 by decide) rfl (show -1000000000 ≤ (0 : Int) ∧ (0 : Int) ≤ 1073741824 by decide) hq8 (clamp8 hq8) (by rw [J2.out.room]; decide) (by rw [J2.out.room, J2.out.u]; omega) (by rw [J2.out.room, J2.out.u, aq_sz]; omega) (by have := line_le (L := p.L) hq8; have := J2.out.L.len; omega)).mono ?_
        rintro e w3 ⟨rfl, a3, c3, l3, hp3, hk3, hf3⟩
        have P3 := Lib.hid hp3
        have B3 := Lib.hid (B2.out.trans (hk3.belowAt B2.out.size fun y hy => P2.out.ge hy))
        clear hp3 hk3 hf3 c0
        go_wp2_with fail
        go_roundw
        case rel => exact ⟨k + 1, l3, _, by omega, by go_num, P3.out, ⟨J2.out.most, J2.out.room, J2.out.now, J2.out.pc, J2.out.cl, J2.out.cn, by show p.u + (aq q k).sz = _; rw [J2.out.u, aq_sz]; push_cast; omega, J2.out.L.step hq8 rfl rfl rfl⟩, B3.out⟩
        case measure => simp [intOf]; omega
      · obtain rfl : z.length = k := by omega
        go_wp2_with fail
        go_loopw [8] (fun i wr => ∃ (k : Nat) (l : Pl) (p : Pp), k ≤ K ∧ i = .int .i64 k ∧ Po b w.heap.size l p wr ∧ J1 z.length k p ∧ Below w.heap.size w wr) (fun i _ => K - (intOf i).toNat)
        case atStart => exact ⟨0, l, p, by omega, rfl, P2.out, J2.out, B2.out⟩
        case round =>
          obtain ⟨k, l4, p4, hk4, rfl, hp4, hj4, hb4⟩ := hrel
          have P4 := Lib.hid hp4
          have J4 := Lib.hid hj4
          have B4 := Lib.hid hb4
          clear hp4 hj4 hb4
          rename World => wj
          by_cases hlt : k < K
          · go_wp2_with fail
            refine (put_cred b w.heap.size l4 p4 (crd k) _ P4.out (Rd.nil _ _) (show (0 : Nat) ≤ 1073741824 by decide) rfl (decide_eq_false (by rw [J4.out.most, J4.out.cl]; omega)) (by rw [J4.out.cl]; omega)).mono ?_
            rintro e w5 ⟨rfl, a5, c5, l5, hp5, hk5, hf5⟩
            have P5 := Lib.hid hp5
            have B5 := Lib.hid (B4.out.trans (hk5.belowAt B4.out.size fun y hy => P4.out.ge hy))
            clear hp5 hk5 hf5
            go_wp2_with fail
            go_roundw
            case rel => exact ⟨k + 1, l5, _, by omega, by go_num, P5.out, ⟨J4.out.most, J4.out.room, J4.out.now, J4.out.pc, by show (p4.C ++ _).length = _; rw [List.length_append, J4.out.cl]; rfl, J4.out.cn.app rfl (by show (k : Int) = _; rw [J4.out.cl]), J4.out.u, J4.out.L⟩, B5.out⟩
            case measure => simp [intOf]; omega
          · obtain rfl : k = K := by omega
            have J5 := Lib.hid (Jh.first J4.out)
            go_wp2_with fail
            go_loopw [9, 10, 11, 12, 13, 14] (fun la at' se nw _ _ wr => ∃ (now gone : Nat) (last at1 : Int) (l : Pl) (p : Pp), now ≤ z.length + 4 * k + 4 ∧ la = .int .i64 last ∧ at' = .int .i64 at1 ∧ se = .int .i64 gone ∧ nw = .int .i64 now ∧ Po b w.heap.size l p wr ∧ Jh z.length k now gone last at1 p ∧ Below w.heap.size w wr) (fun _ _ _ nw _ _ _ => z.length + 4 * k + 4 - (intOf nw).toNat)
            case atStart => exact ⟨0, 0, 8, -1, l4, p4, by omega, rfl, rfl, rfl, rfl, P4.out, J5.out, B4.out⟩
            case round =>
              obtain ⟨now, gone, last, at1, l6, p6, hnT, rfl, rfl, rfl, rfl, hp6, hJ6, hb6⟩ := hrel
              have P6 := Lib.hid hp6
              have J6 := Lib.hid hJ6
              have B6 := Lib.hid hb6
              clear hp6 hJ6 hb6
              rename World => wl
              have hg30 : gone ≤ 20 := by have := J6.out.jg.g; omega
              by_cases hlt2 : now < z.length + 4 * k + 4
              · go_wp2_with fail
                refine (takeH b w.heap.size l6 p6 z.length k now gone last at1 _ P6.out J6.out (by omega) (by omega) hz).mono ?_
                rintro e w7 ⟨x, ok, p7, rfl, ⟨l7, hp7, hk7, hf7⟩, hcs⟩
                have P7 := Lib.hid hp7
                have B7 := Lib.hid (B6.out.trans (hk7.belowAt B6.out.size fun y hy => P6.out.ge hy))
                clear hp7 hk7 hf7
                unfold boxV
                rcases hcs with ⟨rfl, hxk, hm4, hxn, hJ7⟩ | ⟨rfl, hxk, hor, hJ7⟩ | ⟨rfl, hJ7⟩
                · have J7 := Lib.hid hJ7
                  clear hJ7
                  go_wp2_with fail
                  go_roundw
                  case rel => exact ⟨now + 1, gone + 1, last, at1, l7, p7, by omega, by go_num, by go_num, by go_num, by go_num, P7.out.below ((Below.refl _ _).alloc (Nat.le_refl _) _), J7.out, B7.out.alloc B7.out.size _⟩
                  case measure => simp [intOf]; omega
                · have J7 := Lib.hid hJ7
                  have hx11 : (x.kind == 11) = false := by rw [hxk]; rfl
                  clear hJ7 hxk
                  rcases hor with h1 | ⟨h1, h2⟩
                  · go_wp2_with fail
                    have OX := Lib.hid (Ob.new w7 #[.int .i64 x.kind, .int .i64 x.src, .int .i64 x.dst, .int .i64 x.prio, .int .u64 x.msg, .int .i64 x.off, .int .i64 x.len, .int .i64 x.total, .int .i64 x.num, .slice x.da x.dn x.dc, .int .i64 x.path] TIt)
                    have P8 := Lib.hid (P7.out.below ((Below.refl _ w7).alloc (Nat.le_refl _) (.cells #[.int .i64 x.kind, .int .i64 x.src, .int .i64 x.dst, .int .i64 x.prio, .int .u64 x.msg, .int .i64 x.off, .int .i64 x.len, .int .i64 x.total, .int .i64 x.num, .slice x.da x.dn x.dc, .int .i64 x.path] TIt)))
                    have B8 := Lib.hid (B7.out.alloc B7.out.size (.cells #[.int .i64 x.kind, .int .i64 x.src, .int .i64 x.dst, .int .i64 x.prio, .int .u64 x.msg, .int .i64 x.off, .int .i64 x.len, .int .i64 x.total, .int .i64 x.num, .slice x.da x.dn x.dc, .int .i64 x.path] TIt))
                    obtain ⟨X, HX⟩ : ∃ X, Hid (w7.heap.size = X) := ⟨_, Lib.hid rfl⟩
                    rw [HX.out] at OX ⊢
                    generalize w7.alloc (.cells #[.int .i64 x.kind, .int .i64 x.src, .int .i64 x.dst, .int .i64 x.prio, .int .u64 x.msg, .int .i64 x.off, .int .i64 x.len, .int .i64 x.total, .int .i64 x.num, .slice x.da x.dn x.dc, .int .i64 x.path] TIt) = wq at *
                    have lX := OX.out.lt
                    have cX3 : wq.cell? ⟨X, 3, none⟩ = some (.int .i64 x.prio) := (OX.out.blk).2.1 3
                    have cX8 : wq.cell? ⟨X, 8, none⟩ = some (.int .i64 x.num) := (OX.out.blk).2.1 8
                    refine wp_region_quiet_lit (by kernel_rfl) (by kernel_rfl) ?_
                    try simp only [List.append]
                    repeat (first | go_big_quiet_step (fail) | quiet_step (fail))
                    refine wpQuiet_nil ?_
                    intro Wq hWq
                    have P9 : Hid (Po b w.heap.size l7 p7 Wq) := by obtain ⟨m, rfl⟩ := hWq; exact Lib.hid (P8.out.keptF (Kept.dn _ _ _))
                    have B9 : Hid (Below w.heap.size w Wq) := by obtain ⟨m, rfl⟩ := hWq; exact Lib.hid (below_dn B8.out)
                    clear hWq lX cX3 cX8
                    go_wp2_with fail
                    go_roundw
                    case rel => exact ⟨now + 1, gone, x.prio, x.num, l7, p7, by omega, by go_num, by go_num, by go_num, by go_num, P9.out, J7.out, B9.out⟩
                    case measure => simp [intOf]; omega
                  · have h3 : x.prio ≤ last := Int.le_of_eq h1
                    have h4 : last ≤ x.prio := Int.le_of_eq h1.symm
                    have HE := Lib.hid h1
                    clear h1
                    go_wp2_with fail
                    have OX := Lib.hid (Ob.new w7 #[.int .i64 x.kind, .int .i64 x.src, .int .i64 x.dst, .int .i64 last, .int .u64 x.msg, .int .i64 x.off, .int .i64 x.len, .int .i64 x.total, .int .i64 x.num, .slice x.da x.dn x.dc, .int .i64 x.path] TIt)
                    have P8 := Lib.hid (P7.out.below ((Below.refl _ w7).alloc (Nat.le_refl _) (.cells #[.int .i64 x.kind, .int .i64 x.src, .int .i64 x.dst, .int .i64 last, .int .u64 x.msg, .int .i64 x.off, .int .i64 x.len, .int .i64 x.total, .int .i64 x.num, .slice x.da x.dn x.dc, .int .i64 x.path] TIt)))
                    have B8 := Lib.hid (B7.out.alloc B7.out.size (.cells #[.int .i64 x.kind, .int .i64 x.src, .int .i64 x.dst, .int .i64 last, .int .u64 x.msg, .int .i64 x.off, .int .i64 x.len, .int .i64 x.total, .int .i64 x.num, .slice x.da x.dn x.dc, .int .i64 x.path] TIt))
                    obtain ⟨X, HX⟩ : ∃ X, Hid (w7.heap.size = X) := ⟨_, Lib.hid rfl⟩
                    rw [HX.out] at OX ⊢
                    generalize w7.alloc (.cells #[.int .i64 x.kind, .int .i64 x.src, .int .i64 x.dst, .int .i64 last, .int .u64 x.msg, .int .i64 x.off, .int .i64 x.len, .int .i64 x.total, .int .i64 x.num, .slice x.da x.dn x.dc, .int .i64 x.path] TIt) = wq at *
                    have lX := OX.out.lt
                    have cX3 : wq.cell? ⟨X, 3, none⟩ = some (.int .i64 last) := (OX.out.blk).2.1 3
                    have cX8 : wq.cell? ⟨X, 8, none⟩ = some (.int .i64 x.num) := (OX.out.blk).2.1 8
                    refine wp_region_quiet_lit (by kernel_rfl) (by kernel_rfl) ?_
                    try simp only [List.append]
                    repeat (first | go_big_quiet_step (fail) | quiet_step (fail))
                    refine wpQuiet_nil ?_
                    intro Wq hWq
                    have P9 : Hid (Po b w.heap.size l7 p7 Wq) := by obtain ⟨m, rfl⟩ := hWq; exact Lib.hid (P8.out.keptF (Kept.dn _ _ _))
                    have B9 : Hid (Below w.heap.size w Wq) := by obtain ⟨m, rfl⟩ := hWq; exact Lib.hid (below_dn B8.out)
                    clear hWq lX cX3 cX8
                    go_wp2_with fail
                    go_roundw
                    case rel => exact ⟨now + 1, gone, last, x.num, l7, p7, by omega, by go_num, by go_num, by go_num, by go_num, P9.out, HE.out ▸ J7.out, B9.out⟩
                    case measure => simp [intOf]; omega
                · have J7 := Lib.hid hJ7
                  clear hJ7
                  go_wp2_with fail
                  go_roundw
                  case rel => exact ⟨now + 1, gone, last, at1, l7, p7, by omega, by go_num, by go_num, by go_num, by go_num, P7.out.below ((Below.refl _ _).alloc (Nat.le_refl _) _), J7.out, B7.out.alloc B7.out.size _⟩
                  case measure => simp [intOf]; omega
              · obtain rfl : now = z.length + 4 * k + 4 := by omega
                have hS : wfrom p6.L 8 = [] := List.eq_nil_of_length_eq_zero (by have := J6.out.len; have := J6.out.jg.g; omega)
                have hL0 : ∀ i, i < 8 → p6.L i = [] := fun i hi => List.eq_nil_of_length_eq_zero (by have := line_le (L := p6.L) hi; rw [hS] at this; simpa using this)
                have hC0 : p6.C = [] := List.eq_nil_of_length_eq_zero (by have := J6.out.jg.len; have := J6.out.jg.g; omega)
                have hW : p6.waits = [] := by unfold Pp.waits; rw [hS, hC0]; rfl
                have hgk : gone = k := by have := J6.out.jg.g; omega
                subst hgk
                have hW' := wait_pt b w.heap.size l6 p6 wl P6.out (fun i hi => by rw [hL0 i hi]; simp) (by rw [hC0]; simp) (fun x hx => by
                  rcases hx with hx | ⟨i, hi, hx⟩
                  · rw [hC0] at hx; cases hx
                  · rw [hL0 i hi] at hx; cases hx)
                rw [hW] at hW'
                have HW := Lib.hid hW'
                clear hW' hW hS hL0 hC0
                go_wp2_with fail
                refine (HW.out).mono ?_
                rintro e w8 ⟨v8, rfl, ⟨Y, hY, ho, hd⟩, hb8⟩
                have hY0 : Y = [] := List.eq_nil_of_length_eq_zero hY.len
                subst hY0
                obtain ⟨a8, c8, rfl, _, _⟩ := (Rd.of_own ho).form
                rw [List.length_nil]
                have B8 := Lib.hid (B6.out.trans (hb8.mono B6.out.size))
                clear hY ho hd hb8
                go_wp2_with fail
                refine (awake_w _).mono ?_
                rintro e w9 ⟨rfl, hb9⟩
                have B9 := Lib.hid (B8.out.trans (hb9.mono B8.out.size))
                clear hb9
                go_wp2_with fail
                go_ret
                exact ⟨rfl, B9.out⟩
end Go.Proofs.Ythgkminjhpaakaa
