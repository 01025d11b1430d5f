/- The law QueueRemoves (chapter 12), walked. -/
import Derived.Test.YtodkcbglbolfhaaQueueOrd
namespace Go.Proofs.Ytodkcbglbolfhaa
open Go.RowKit

theorem qlt {b B0 : Nat} {V : Nat → Value} {room u : Int} {L : Nat → List Bx} {w : World} (h : Qu b B0 V room u L w) : ∀ x, QM b V x → x < w.heap.size := by
  rintro x (rfl | ⟨i, hi, hx⟩)
  · exact h.ob.lt
  · exact ((h.own i hi).lt x hx).2
theorem own_ge {w : World} {B : Nat} {e : TypeId} {size : Nat} {v : Value} {n : Nat} {xs : List Value} (h : w.ownsRow B e size v n xs) : ∀ a l c, v = .slice (some a) l c → B ≤ a.block := by
  rintro a l c rfl
  exact (h.lt a.block rfl).1
theorem cut_get (l : List Bx) (k i : Nat) (hk : k < l.length) (hi : i < (l.take k ++ l.drop (k + 1)).length) : ∃ h : (if i < k then i else i + 1) < l.length, (l.take k ++ l.drop (k + 1))[i] = l[if i < k then i else i + 1] := by
  have hl : (l.take k ++ l.drop (k + 1)).length = l.length - 1 := by rw [List.length_append, List.length_take, List.length_drop]; omega
  by_cases h : i < k
  · refine ⟨by rw [if_pos h]; omega, ?_⟩
    rw [List.getElem_append_left (by rw [List.length_take]; omega)]
    simp [h]
  · refine ⟨by rw [if_neg h]; omega, ?_⟩
    rw [List.getElem_append_right (by rw [List.length_take]; omega)]
    simp only [List.getElem_drop, List.length_take, if_neg h]
    congr 1; omega
theorem cut_get2 (l N : List Bx) (k i : Nat) (hk : k < l.length) (hN : l.take k ++ l.drop (k + 1) = N) (hi : i < N.length) : (i < k → ∃ h : i < l.length, N[i] = l[i]) ∧ (¬ i < k → ∃ h : i + 1 < l.length, N[i] = l[i + 1]) := by
  subst hN
  obtain ⟨h1, h2⟩ := cut_get l k i hk hi
  constructor
  · intro h
    refine ⟨by omega, h2.trans ?_⟩
    congr 1; exact if_pos h
  · intro h
    have h3 : i + 1 < l.length := by rw [if_neg h] at h1; exact h1
    refine ⟨h3, h2.trans ?_⟩
    congr 1; exact if_neg h

set_option maxRecDepth 100000 in
set_option maxHeartbeats 8000000 in
theorem removes_in (l : List Int) (line k0 : Int) (v : Value) (w : World) (h : Rd w 1 v l.length (l.map (Value.int .i64))) (hl : l.length ≤ 60) (hpos : 0 < l.length) : Calls Try.prog 4 #[v, .int .i64 line, .int .i64 k0] w (TrueBelow w) := by
  obtain ⟨v, cp, rfl, h1, h2⟩ := h.form
  have HR := Lib.hid h
  clear h
  have hnz : ((l.length : Int) == 0) = false := beq_eq_false_iff_ne.mpr (by omega)
  have hrm : (0 : Int) ≤ 10 * (l.length : Int) ∧ 10 * (l.length : Int) ≤ 1000000 := ⟨by omega, by omega⟩
  go_enter Try.func4, Try.ntmps4
  go_wp2_with fail
  refine (qnew_yes (10 * l.length) _ ⟨by omega, by omega⟩).mono ?_
  rintro e w1 ⟨rfl, hq, hb1⟩
  have HQ := Lib.hid hq
  have HB := Lib.hid hb1
  clear hq hb1
  go_wp2_with fail
  generalize hB : w.heap.size = B at *
  have HBQ := Lib.hid hB
  clear hB
  go_loopw [9] (fun i wr => ∃ (k : Nat) (V : Nat → Value) (L : Nat → List Bx), i = .int .i64 k ∧ k ≤ l.length ∧ Qu B B V (10 * l.length) (10 * k) L wr ∧ Full l k L ∧ Below B w wr) (fun i _ => l.length - (intOf i).toNat)
  case atStart => exact ⟨0, _, _, rfl, by omega, HQ.out, full_nil l, HB.out⟩
  case round =>
    obtain ⟨k, V, L, rfl, hk, hq, hf, hbw⟩ := hrel
    have HQ := Lib.hid hq
    have HF := Lib.hid hf
    have HBW := Lib.hid hbw
    clear hq hf hbw
    by_cases hlt : k < l.length
    · have hRd := HR.out.below (by rw [HBQ.out]; exact HBW.out)
      obtain ⟨b, o, rfl, c0⟩ := hRd.at k hlt
      have HRN := Lib.hid (rnd_eq l k hlt)
      have hrl := rnd_lt l k
      have hll : (L (rnd l k)).length ≤ 1000000 := by have := lenTo_ge L _ hrl; have := HF.out.len; omega
      have HP := Lib.hid (push_yes B B V (10 * l.length) (10 * k) L (rnd l k) ⟨10, (k : Int)⟩ _ HQ.out hrl (by omega) (by omega) (by rw [sz10]; omega) hll)
      generalize l[k] = x at c0 HRN
      clear hRd hll
      go_wp2_with fail
      refine (round_any _ _ _ (by decide) (by decide)).mono ?_
      rintro e w2 ⟨rfl, rfl⟩
      rw [HRN.out]
      go_wp2_with fail
      refine HP.out.mono ?_
      rintro e w3 ⟨rfl, V', hq', hk', _⟩
      have HQ' := Lib.hid hq'
      have HBW' := Lib.hid (HBW.out.trans (HQ.out.keptB hk'))
      clear hq' hk'
      go_wp2_with fail
      go_roundw
      case rel => exact ⟨k + 1, V', _, by go_num, by omega, by have := HQ'.out; rw [sz10] at this; rw [show (10 : Int) * ((k + 1 : Nat) : Int) = 10 * (k : Int) + 10 by omega]; exact this, full_push HF.out, HBW'.out⟩
      case measure => simp [intOf]; omega
    · obtain rfl : k = l.length := by omega
      have hsr : B ≤ wr.heap.size := by have := HBW.out.size; rw [HBQ.out] at this; exact this
      obtain ⟨q, hq8, HQL⟩ : ∃ q : Nat, q < 8 ∧ Hid (line % 8 = (q : Int)) := ⟨(line % 8).toNat, by omega, Lib.hid (by omega)⟩
      have hlq : (L q).length ≤ 60 := by have := lenTo_ge L q hq8; have := HF.out.len; omega
      go_wp2_with fail
      refine (round_any _ _ _ (by decide) (by decide)).mono ?_
      rintro e w2 ⟨rfl, rfl⟩
      rw [HQL.out]
      go_wp2_with fail
      refine (line_any _ _ _ _ _ _ q _ HQ.out hq8 (by omega)).mono ?_
      rintro e w3 ⟨vw, rfl, hw3, hb3⟩
      obtain ⟨aw, cw, rfl, hcw, hcm⟩ := (Rd.of_own hw3).form
      have HQ3 := Lib.hid (HQ.out.below hb3)
      have B3 := Lib.hid (HBW.out.trans (hb3.mono hsr))
      have R3 := Lib.hid (Rd.of_own hw3)
      have hge := own_ge hw3
      have hs3 := hb3.size
      have HGE := Lib.hid hge
      clear hb3 hw3 hge
      go_wp2_with fail
      refine (push_full _ _ _ _ _ _ 0 ⟨1, 0⟩ _ HQ3.out (by decide) (by omega) (by omega) (by show _ < (1 : Int); omega)).mono ?_
      rintro e w4 ⟨rfl, hb4⟩
      have HQ4 := Lib.hid (HQ3.out.below hb4)
      have B4 := Lib.hid (B3.out.trans (hb4.mono (by omega)))
      have R4 := Lib.hid (R3.out.below hb4)
      have hs4 := hb4.size
      clear hb4
      by_cases hz : (L q).length = 0
      · have hzb : (((L q).length : Int) == 0) = true := by simp [hz]
        have HZ := Lib.hid hz
        have HLN := Lib.hid HF.out.len
        go_wp2_with fail
        refine (remove_no _ _ _ _ _ _ q k0 _ HQ4.out (by rw [Int.toNat_natCast]; omega)).mono ?_
        rintro e w5 ⟨rfl, hb5⟩
        have HQ5 := Lib.hid (HQ4.out.below hb5)
        have B5 := Lib.hid (B4.out.trans (hb5.mono (by omega)))
        have hs5 := hb5.size
        clear hb5
        unfold noBox
        go_wp2_with fail
        refine (len_any _ _ _ _ _ _ _ (by first | exact HQ5.out | exact HQ5.out.alloc _) (fun i hi => by have := lenTo_ge L i hi; have := HLN.out; omega)).mono ?_
        rw [HLN.out]
        rintro e w6 ⟨rfl, rfl⟩
        go_wp2_with fail
        refine (awake_any _).mono ?_
        rintro e w6 ⟨rfl, hb6⟩
        go_wp2_with fail
        go_ret
        refine ⟨rfl, ?_⟩
        rw [HBQ.out]
        first
          | exact B5.out.trans (hb6.mono (by omega))
          | exact (B5.out.alloc (by omega) _).trans (hb6.mono (by simp; omega))
      · have hzb : (((L q).length : Int) == 0) = false := beq_eq_false_iff_ne.mpr (by omega)
        obtain ⟨k, hk, HKK⟩ : ∃ k : Nat, k < (L q).length ∧ Hid (k0 % (((L q).length : Nat) : Int) = (k : Int)) := by
          have h1 := Int.emod_nonneg k0 (b := ((L q).length : Int)) (by omega)
          have h2 := Int.emod_lt_of_pos k0 (b := ((L q).length : Int)) (by omega)
          exact ⟨(k0 % ((L q).length : Int)).toNat, by omega, Lib.hid (by omega)⟩
        go_wp2_with fail
        refine (round_any _ _ _ (by omega) (by omega)).mono ?_
        rintro e w5 ⟨rfl, rfl⟩
        rw [HKK.out]
        go_wp2_with fail
        have hx10 : (L q)[k].sz = 10 := by
          obtain ⟨i, hi, _⟩ := HF.out.mem q hq8 (L q)[k] (List.getElem_mem hk)
          rw [hi]; exact sz10 _
        refine (remove_yes _ _ _ _ _ _ q k _ HQ4.out hq8 hk ⟨by rw [hx10]; omega, by omega⟩).mono ?_
        rintro e w5 ⟨rfl, V5, hq5, hk5, _⟩
        have R5 := Lib.hid (R4.out.kept hk5 (fun a l c he hm => by
          have h1 := HGE.out a l c he
          have h2 := qlt HQ.out a.block hm
          omega))
        have hs5 := hk5.size
        have B5 := Lib.hid (B4.out.trans (HQ4.out.keptB hk5))
        rw [hx10] at hq5
        have HQ5 := Lib.hid hq5
        clear hq5 hk5
        have hnl : ((L q).take k ++ (L q).drop (k + 1)).length = (L q).length - 1 := by rw [List.length_append, List.length_take, List.length_drop]; omega
        generalize hN : (L q).take k ++ (L q).drop (k + 1) = N at *
        have HN := Lib.hid hN
        clear hN
        unfold boxV
        go_wp2_with fail
        have OX := Lib.hid (Ob.new w5 #[.int .i64 (L q)[k].n, .int .i64 (L q)[k].v] 29)
        have QY := Lib.hid (HQ5.out.alloc (.cells #[.int .i64 (L q)[k].n, .int .i64 (L q)[k].v] 29))
        have RY := Lib.hid (R5.out.below ((Below.refl w5.heap.size w5).alloc (Nat.le_refl _) (.cells #[.int .i64 (L q)[k].n, .int .i64 (L q)[k].v] 29)))
        have BY := Lib.hid (B5.out.alloc (by omega) (.cells #[.int .i64 (L q)[k].n, .int .i64 (L q)[k].v] 29))
        have hsy : w5.heap.size < (w5.alloc (.cells #[.int .i64 (L q)[k].n, .int .i64 (L q)[k].v] 29)).heap.size := OX.out.lt
        generalize w5.alloc (.cells #[.int .i64 (L q)[k].n, .int .i64 (L q)[k].v] 29) = Y at *
        generalize w5.heap.size = s5 at *
        clear B5 R5 HQ5
        refine (line_any _ _ _ _ _ _ q _ QY.out hq8 (by rw [upd_same]; omega)).mono ?_
        rintro e w6 ⟨vn, rfl, hw6, hb6⟩
        rw [upd_same] at hw6
        obtain ⟨an, cn, rfl, hcn, hcm⟩ := (Rd.of_own hw6).form
        have HQ6 := Lib.hid (QY.out.below hb6)
        have B6 := Lib.hid (BY.out.trans (hb6.mono (by omega)))
        have R6 := Lib.hid (RY.out.below hb6)
        have N6 := Lib.hid (Rd.of_own hw6)
        have O6 := Lib.hid (OX.out.below hb6)
        have hs6 := hb6.size
        clear hb6 hw6
        have hnli : (((N.length : Nat) : Int) != ((L q).length : Int) - 1) = false := by simp; omega
        have hnli2 : (((N.length : Nat) : Int) == ((L q).length : Int) - 1) = true := beq_iff_eq.mpr (by omega)
        obtain ⟨bw, ow, rfl, hbw, cw0⟩ := Rd.row rowBox (by decide) R6.out k hk
        have c0 := cw0 0 (.int .i64 (L q)[k].n) rfl
        have c1 := cw0 1 (.int .i64 (L q)[k].v) rfl
        clear cw0
        rw [Nat.add_zero] at c0
        obtain ⟨lx, cx, fx⟩ := O6.out.blk
        have d0 := cx 0
        have d1 := cx 1
        clear cx
        have HNL := Lib.hid hnl
        clear hnl
        go_wp2_with fail
        refine wp_region_quiet_lit (by kernel_rfl) (by kernel_rfl) ?_
        repeat (first | go_big_quiet_step (first | (go_at_call 13; exact quietS (used_any _ _ _ _ _ _ _ HQ6.out.dn)) | (go_at_call 13; exact quietA (used_any _ _ _ _ _ _ _ HQ6.out.dn))) | quiet_step (first | (go_at_call 13; exact quietS (used_any _ _ _ _ _ _ _ HQ6.out.dn)) | (go_at_call 13; exact quietA (used_any _ _ _ _ _ _ _ HQ6.out.dn))))
        refine wpQuiet_nil ?_
        intro w7 hw7
        have h7 : Kept (fun _ => False) w6 w7 := by
          obtain ⟨n7, rfl⟩ := hw7
          exact Kept.dn _ _ _
        have HQ7 := Lib.hid (HQ6.out.kept h7 fun _ _ hh => hh)
        have R7 := Lib.hid (R6.out.kept h7 fun _ _ _ _ hh => hh)
        have N7 := Lib.hid (N6.out.kept h7 fun _ _ _ _ hh => hh)
        have B7 := Lib.hid (B6.out.trans (h7.below.mono (by omega)))
        clear h7 hw7 c0 c1 d0 d1 lx fx hbw
        go_wp2_with fail
        go_loopw [16] (fun i wr => ∃ (n : Nat), i = .int .i64 n ∧ n ≤ N.length ∧ Qu B B V5 (10 * l.length) (10 * l.length - 10) (upd L q N) wr ∧ Rd wr 2 (.slice (some ⟨bw, ow, none⟩) (L q).length cw) (L q).length ((L q).flatMap Bx.box) ∧ Rd wr 2 (.slice an N.length cn) N.length (N.flatMap Bx.box) ∧ Below B w wr) (fun i _ => N.length - (intOf i).toNat)
        case atStart => exact ⟨0, rfl, by omega, HQ7.out, R7.out, N7.out, B7.out⟩
        case round =>
          obtain ⟨n, rfl, hn, hq8, hr8, hn8, hb8⟩ := hrel
          have HQ8 := Lib.hid hq8
          have R8 := Lib.hid hr8
          have N8 := Lib.hid hn8
          have B8 := Lib.hid hb8
          clear hq8 hr8 hn8 hb8
          by_cases hlt : n < N.length
          · have hj := cut_get2 (L q) N k n hk HN.out hlt
            obtain ⟨bn, on, rfl, hbn, cn0⟩ := Rd.row rowBox (by decide) N8.out n hlt
            by_cases hnk : n < k
            · obtain ⟨hjl, hje⟩ := hj.1 hnk
              obtain ⟨_, _, hbe, hbw, cw0⟩ := Rd.row rowBox (by decide) R8.out n hjl
              cases hbe
              rw [hje] at cn0
              have c0 := cw0 0 (.int .i64 (L q)[n].n) rfl
              have c1 := cw0 1 (.int .i64 (L q)[n].v) rfl
              have d0 := cn0 0 (.int .i64 (L q)[n].n) rfl
              have d1 := cn0 1 (.int .i64 (L q)[n].v) rfl
              rw [Nat.add_zero] at c0 d0
              clear cw0 cn0 hj hje
              go_wp2_with fail
              refine wp_region_quiet_lit (by kernel_rfl) (by kernel_rfl) ?_
              repeat (first | go_big_quiet_step (fail) | quiet_step (fail))
              refine wpQuiet_nil ?_
              intro W hW
              have hW9 : Kept (fun _ => False) wr W := by
                obtain ⟨n9, rfl⟩ := hW
                exact Kept.dn _ _ _
              have HQ9 := Lib.hid (HQ8.out.kept hW9 fun _ _ hh => hh)
              have R9 := Lib.hid (R8.out.kept hW9 fun _ _ _ _ hh => hh)
              have N9 := Lib.hid (N8.out.kept hW9 fun _ _ _ _ hh => hh)
              have B9 := Lib.hid (B8.out.trans (hW9.below.mono (by have := B8.out.size; rw [HBQ.out] at this; exact this)))
              clear hW9 hW c0 c1 d0 d1 hbw hbn
              go_wp2_with fail
              go_roundw
              case rel => exact ⟨n + 1, by go_num, by omega, HQ9.out, R9.out, N9.out, B9.out⟩
              case measure => simp [intOf]; omega
            · obtain ⟨hjl, hje⟩ := hj.2 hnk
              obtain ⟨_, _, hbe, hbw, cw0⟩ := Rd.row rowBox (by decide) R8.out (n + 1) hjl
              cases hbe
              rw [hje] at cn0
              have c0 := cw0 0 (.int .i64 (L q)[n + 1].n) rfl
              have c1 := cw0 1 (.int .i64 (L q)[n + 1].v) rfl
              have d0 := cn0 0 (.int .i64 (L q)[n + 1].n) rfl
              have d1 := cn0 1 (.int .i64 (L q)[n + 1].v) rfl
              rw [Nat.add_zero] at c0 d0
              clear cw0 cn0 hj hje
              go_wp2_with fail
              refine wp_region_quiet_lit (by kernel_rfl) (by kernel_rfl) ?_
              repeat (first | go_big_quiet_step (fail) | quiet_step (fail))
              refine wpQuiet_nil ?_
              intro W hW
              have hW9 : Kept (fun _ => False) wr W := by
                obtain ⟨n9, rfl⟩ := hW
                exact Kept.dn _ _ _
              have HQ9 := Lib.hid (HQ8.out.kept hW9 fun _ _ hh => hh)
              have R9 := Lib.hid (R8.out.kept hW9 fun _ _ _ _ hh => hh)
              have N9 := Lib.hid (N8.out.kept hW9 fun _ _ _ _ hh => hh)
              have B9 := Lib.hid (B8.out.trans (hW9.below.mono (by have := B8.out.size; rw [HBQ.out] at this; exact this)))
              clear hW9 hW c0 c1 d0 d1 hbw hbn
              go_wp2_with fail
              go_roundw
              case rel => exact ⟨n + 1, by go_num, by omega, HQ9.out, R9.out, N9.out, B9.out⟩
              case measure => simp [intOf]; omega
          · obtain rfl : n = N.length := by omega
            have hsz8 : B ≤ wr.heap.size := by have := B8.out.size; rw [HBQ.out] at this; exact this
            go_wp2_with fail
            refine (push_yes _ _ _ _ _ _ 3 ⟨10, 0⟩ _ HQ8.out (by decide) (by omega) (by omega) (by rw [sz10]; omega) (by
              rw [up_lt]
              split
              · have := HNL.out; omega
              · have := lenTo_ge L 3 (by decide); have := HF.out.len; omega)).mono ?_
            rintro e w9 ⟨rfl, V9, hq9, hk9, _⟩
            have HQ9 := Lib.hid hq9
            have B9 := Lib.hid (B8.out.trans (HQ8.out.keptB hk9))
            have hs9 := hk9.size
            clear hq9 hk9
            go_wp2_with fail
            refine (push_full _ _ _ _ _ _ 3 ⟨1, 0⟩ _ HQ9.out (by decide) (by omega) (by rw [sz10]; omega) (by rw [sz10]; show _ < (1 : Int); omega)).mono ?_
            rintro e w10 ⟨rfl, hb10⟩
            have B10 := Lib.hid (B9.out.trans (hb10.mono (by omega)))
            have hs10 := hb10.size
            clear hb10
            go_wp2_with fail
            refine (awake_any _).mono ?_
            rintro e w11 ⟨rfl, hb11⟩
            go_wp2_with fail
            go_ret
            refine ⟨rfl, ?_⟩
            rw [HBQ.out]
            exact B10.out.trans (hb11.mono (by omega))
theorem removes_any (l : List Int) (line k0 : Int) (v : Value) (w : World) (h : Rd w 1 v l.length (l.map (Value.int .i64))) : Calls Try.prog 4 #[v, .int .i64 line, .int .i64 k0] w (TrueBelow w) := by
  by_cases hc : l.length ≤ 60 ∧ 0 < l.length
  · exact removes_in l line k0 v w h hc.1 hc.2
  · have hc2 : l.length = 0 ∨ (0 < l.length ∧ 60 < l.length) := by omega
    obtain ⟨v, cp, rfl, h1, h2⟩ := h.form
    clear h hc
    rcases hc2 with h | ⟨h, h3⟩
    · have hz : ((l.length : Int) == 0) = true := by simp [h]
      go_enter Try.func4, Try.ntmps4
      go_wp2_with fail
      refine (awake_any _).mono ?_
      rintro e w2 ⟨rfl, hb⟩
      go_wp2_with fail
      go_ret
      exact ⟨rfl, hb⟩
    · have hz : ((l.length : Int) == 0) = false := beq_eq_false_iff_ne.mpr (by omega)
      go_enter Try.func4, Try.ntmps4
      go_wp2_with fail
      refine (awake_any _).mono ?_
      rintro e w2 ⟨rfl, hb⟩
      go_wp2_with fail
      go_ret
      exact ⟨rfl, hb⟩
end Go.Proofs.Ytodkcbglbolfhaa
