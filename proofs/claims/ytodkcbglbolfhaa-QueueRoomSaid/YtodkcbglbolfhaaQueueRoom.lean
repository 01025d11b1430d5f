/- The law QueueRoom (chapter 12), walked. -/
import Derived.Test.YtodkcbglbolfhaaQueueLaw
namespace Go.Proofs.Ytodkcbglbolfhaa
open Go.RowKit

theorem push_nil (x : Bx) (w : World) : Calls Try.prog 9 #[.pointer none, .int .i64 0, .agg #[.int .i64 x.n, .int .i64 x.v]] w fun e w' => e = .returned (.int .i64 4) ∧ Below w.heap.size w w' := by
  go_enter Try.func9, Try.ntmps9
  go_wp2_with fail
  go_ret
  exact ⟨rfl, (Below.refl _ _).alloc (Nat.le_refl _) _⟩
theorem pop_nil (w : World) : Calls Try.prog 11 #[.pointer none] w fun e w' => e = .returned (.tuple #[noBox, .int .i64 0, .bool false]) ∧ Below w.heap.size w w' := by
  go_enter Try.func11, Try.ntmps11
  go_wp2_with fail
  refine (top_nil _).mono ?_
  rintro e w1 ⟨rfl, rfl⟩
  go_wp2_with fail
  exact done (.tuple #[noBox, .int .i64 0, .bool false]) rfl (by simp [noBox, results, Try.results11, go_sem]) ⟨rfl, (Below.refl _ _).alloc (Nat.le_refl _) _⟩
theorem peek_nil (w : World) : Calls Try.prog 19 #[.pointer none] w fun e w' => e = .returned (.tuple #[noBox, .int .i64 0, .bool false]) ∧ Below w.heap.size w w' := by
  go_enter Try.func19, Try.ntmps19
  go_wp2_with fail
  refine (top_nil _).mono ?_
  rintro e w1 ⟨rfl, rfl⟩
  go_wp2_with fail
  exact done (.tuple #[noBox, .int .i64 0, .bool false]) rfl (by simp [noBox, results, Try.results19, go_sem]) ⟨rfl, (Below.refl _ _).alloc (Nat.le_refl _) _⟩
theorem remove_nil (p k : Int) (w : World) : Calls Try.prog 15 #[.pointer none, .int .i64 p, .int .i64 k] w fun e w' => e = .returned (.tuple #[noBox, .bool false]) ∧ Below w.heap.size w w' := by
  go_enter Try.func15, Try.ntmps15
  go_wp2_with fail
  exact done (.tuple #[noBox, .bool false]) rfl (by simp [noBox, results, Try.results15, go_sem]) ⟨rfl, (Below.refl _ _).alloc (Nat.le_refl _) _⟩
theorem len_nil (w : World) : Calls Try.prog 12 #[.pointer none] w fun e w' => e = .returned (.int .i64 0) ∧ w = w' := by
  go_enter Try.func12, Try.ntmps12
  go_wp2_with fail
  go_ret
  exact ⟨rfl, rfl⟩
theorem used_nil (w : World) : Calls Try.prog 13 #[.pointer none] w fun e w' => e = .returned (.int .i64 0) ∧ w = w' := by
  go_enter Try.func13, Try.ntmps13
  go_wp2_with fail
  go_ret
  exact ⟨rfl, rfl⟩
theorem line_nil (p : Int) (w : World) : Calls Try.prog 14 #[.pointer none, .int .i64 p] w fun e w' => e = .returned (.slice none 0 0) ∧ w = w' := by
  go_enter Try.func14, Try.ntmps14
  go_wp2_with fail
  go_ret
  exact ⟨rfl, rfl⟩
theorem size_any (x : Bx) (w : World) : Calls Try.prog 17 #[.agg #[.int .i64 x.n, .int .i64 x.v]] w fun e w' => e = .returned (.int .i64 x.sz) ∧ Below w.heap.size w w' := by
  have HX := Lib.hid (show min (max x.n 0) 1073741824 = x.sz by
    unfold Bx.sz clampI
    split
    · omega
    · split <;> omega)
  go_enter Try.func17, Try.ntmps17
  go_wp2_with fail
  go_ret
  exact ⟨ret_int HX.out, (Below.refl _ _).alloc (Nat.le_refl _) _⟩
theorem Qu.lt {b B0 : Nat} {V : Nat → Value} {room u : Int} {L : Nat → List Bx} {w : World} (h : Qu b B0 V room u L w) : ∀ x, QM b V x → x < w.heap.size := by
  rintro x (rfl | ⟨i, hi, hx⟩)
  · exact h.ob.lt
  · exact ((h.own i hi).lt x hx).2

set_option maxRecDepth 100000 in
set_option maxHeartbeats 4000000 in
theorem room_in (room : Int) (l : List Int) (v : Value) (w : World) (h : Rd w 1 v l.length (l.map (Value.int .i64))) (hl : l.length ≤ 60) (r0 : 0 ≤ room) (r1 : room ≤ 1099511627776) : Calls Try.prog 6 #[.int .i64 room, v] w (TrueBelow w) := by
  obtain ⟨v, cp, rfl, h1, h2⟩ := h.form
  have HR := Lib.hid h
  clear h
  go_enter Try.func6, Try.ntmps6
  go_wp2_with fail
  refine (qnew_yes room _ ⟨r0, r1⟩).mono ?_
  rintro e w1 ⟨rfl, hq, hb1⟩
  have HQ := Lib.hid hq
  have HB := Lib.hid hb1
  clear hq hb1
  go_wp2_with fail
  generalize hB : w.heap.size = B at *
  have HBQ := Lib.hid hB
  clear hB
  go_loopw [7, 8, 9] (fun uv nv i wr => ∃ (k : Nat) (u : Int) (V : Nat → Value) (L : Nat → List Bx), uv = .int .i64 u ∧ nv = .int .i64 (lenTo L 8) ∧ i = .int .i64 k ∧ k ≤ l.length ∧ Qu B B V room u L wr ∧ 0 ≤ u ∧ u ≤ room ∧ lenTo L 8 ≤ k ∧ Below B w wr) (fun _ _ i _ => l.length - (intOf i).toNat)
  case atStart => exact ⟨0, 0, _, _, rfl, rfl, rfl, by omega, HQ.out, by omega, r0, by simp [lenTo], HB.out⟩
  case round =>
    obtain ⟨k, u, V, L, rfl, rfl, rfl, hk, hq, u0, u1, hlk, hbw⟩ := hrel
    have HQ := Lib.hid hq
    have HBW := Lib.hid hbw
    clear hq hbw
    by_cases hlt : k < l.length
    · have hRd := HR.out.below (by rw [HBQ.out]; exact HBW.out)
      obtain ⟨b, o, rfl, c0⟩ := hRd.at k hlt
      generalize l[k] = y at c0
      obtain ⟨x, hxn, hxv⟩ : ∃ x : Bx, x.n = y ∧ x.v = k := ⟨⟨y, k⟩, rfl, rfl⟩
      subst hxn
      have hs := szBx x
      have hp : k % 8 < 8 := Nat.mod_lt _ (by decide)
      have HPR := Lib.hid (show (k : Int) % 8 = ((k % 8 : Nat) : Int) by omega)
      have HXV := Lib.hid hxv
      have OX := Lib.hid (Ob.new wr #[.int .i64 x.n, .int .i64 k] 29)
      have QY := Lib.hid (HQ.out.alloc (.cells #[.int .i64 x.n, .int .i64 k] 29))
      have hwr : B ≤ wr.heap.size := by have := HBW.out.size; rw [HBQ.out] at this; exact this
      have BY := Lib.hid (HBW.out.alloc hwr (.cells #[.int .i64 x.n, .int .i64 k] 29))
      have hXn : ¬ QM B V wr.heap.size := fun hh => Nat.lt_irrefl _ (HQ.out.lt _ hh)
      have hll : (L (k % 8)).length ≤ 1000000 := by have := lenTo_ge L _ hp; omega
      clear hRd hxv
      by_cases hf : u + x.sz ≤ room
      · have HP := Lib.hid (push_yes B B V room u L (k % 8) x _ QY.out hp ⟨r0, r1⟩ ⟨u0, u1⟩ (by omega) hll)
        have hlu := lenTo_upd L (k % 8) hp (L (k % 8) ++ [x])
        rw [List.length_append, List.length_singleton] at hlu
        rw [HXV.out] at HP
        go_wp2_with fail
        rw [HPR.out]
        generalize wr.alloc (.cells #[.int .i64 x.n, .int .i64 k] 29) = Y at *
        refine HP.out.mono ?_
        rintro e w3 ⟨rfl, V', hq', hk', _⟩
        have HQ' := Lib.hid hq'
        have HBW' := Lib.hid (BY.out.trans (QY.out.keptB hk'))
        have OX' := Lib.hid (OX.out.kept hk' hXn)
        clear hq' hk'
        obtain ⟨lx, cx, fx⟩ := OX'.out.blk
        have hlen : ∀ i, i < 8 → ((upd L (k % 8) (L (k % 8) ++ [x])) i).length ≤ 1000000 := fun i hi => by have := lenTo_ge (upd L (k % 8) (L (k % 8) ++ [x])) i hi; omega
        have HLEN := Lib.hid hlen
        have HLU := Lib.hid (show (lenTo (upd L (k % 8) (L (k % 8) ++ [x])) 8 : Int) = (lenTo L 8 : Int) + 1 by omega)
        clear hlen hlu
        have hszc := size_any x
        rw [HXV.out] at hszc
        have HSZ := Lib.hid hszc
        clear hszc
        go_wp2_with fail
        refine (HSZ.out _).mono ?_
        rintro e w4 ⟨rfl, hb4⟩
        have HQ4 := Lib.hid (HQ'.out.below hb4)
        have B4 := Lib.hid (HBW'.out.trans (hb4.mono (by have := HBW'.out.size; rw [HBQ.out] at this; exact this)))
        have OX4 := Lib.hid (OX'.out.below hb4)
        clear hb4 lx cx fx
        obtain ⟨lx, cx, fx⟩ := OX4.out.blk
        go_wp2_with fail
        refine (HSZ.out _).mono ?_
        rintro e w5 ⟨rfl, hb5⟩
        have HQ5 := Lib.hid (HQ4.out.below hb5)
        have B5 := Lib.hid (B4.out.trans (hb5.mono (by have := B4.out.size; rw [HBQ.out] at this; exact this)))
        clear hb5 lx cx fx
        go_wp2_with fail
        refine (used_any _ _ _ _ _ _ _ HQ5.out).mono ?_
        rintro e w6 ⟨rfl, rfl⟩
        go_wp2_with fail
        refine (len_any _ _ _ _ _ _ _ HQ5.out HLEN.out).mono ?_
        rw [HLU.out]
        rintro e w6 ⟨rfl, rfl⟩
        go_wp2_with fail
        go_roundw
        case rel => exact ⟨k + 1, _, V', _, rfl, by rw [HLU.out], by go_num, by omega, HQ5.out, by omega, by omega, by have := HLU.out; omega, B5.out⟩
        case measure => simp [intOf]; omega
      · have HP := Lib.hid (push_full B B V room u L (k % 8) x _ QY.out hp ⟨r0, r1⟩ ⟨u0, u1⟩ (by omega))
        rw [HXV.out] at HP
        go_wp2_with fail
        rw [HPR.out]
        generalize wr.alloc (.cells #[.int .i64 x.n, .int .i64 k] 29) = Y at *
        refine HP.out.mono ?_
        rintro e w3 ⟨rfl, hb3⟩
        have HQ' := Lib.hid (QY.out.below hb3)
        have hYs : B ≤ Y.heap.size := by have := BY.out.size; rw [HBQ.out] at this; exact this
        have HBW' := Lib.hid (BY.out.trans (hb3.mono hYs))
        have OX' := Lib.hid (OX.out.below hb3)
        clear hb3
        obtain ⟨lx, cx, fx⟩ := OX'.out.blk
        have HLEN := Lib.hid (show ∀ i, i < 8 → (L i).length ≤ 1000000 from fun i hi => by have := lenTo_ge L i hi; omega)
        have hszc := size_any x
        rw [HXV.out] at hszc
        have HSZ := Lib.hid hszc
        clear hszc
        go_wp2_with fail
        refine (HSZ.out _).mono ?_
        rintro e w4 ⟨rfl, hb4⟩
        have HQ4 := Lib.hid (HQ'.out.below hb4)
        have B4 := Lib.hid (HBW'.out.trans (hb4.mono (by have := HBW'.out.size; rw [HBQ.out] at this; exact this)))
        clear hb4 lx cx fx
        go_wp2_with fail
        refine (used_any _ _ _ _ _ _ _ HQ4.out).mono ?_
        rintro e w6 ⟨rfl, rfl⟩
        go_wp2_with fail
        refine (len_any _ _ _ _ _ _ _ HQ4.out HLEN.out).mono ?_
        rintro e w6 ⟨rfl, rfl⟩
        go_wp2_with fail
        go_roundw
        case rel => exact ⟨k + 1, _, V, L, rfl, rfl, by go_num, by omega, HQ4.out, u0, u1, by omega, B4.out⟩
        case measure => simp [intOf]; omega
    · have hs0 : B ≤ wr.heap.size := by have := HBW.out.size; rw [HBQ.out] at this; exact this
      go_wp2_with fail
      refine (pop_nil _).mono ?_
      rintro e w2 ⟨rfl, hb2⟩
      have B2 := Lib.hid (HBW.out.trans (hb2.mono hs0))
      clear hb2
      have s2 : B ≤ w2.heap.size := by have := B2.out.size; rw [HBQ.out] at this; exact this
      unfold noBox
      go_wp2_with fail
      refine (peek_nil _).mono ?_
      rintro e w3 ⟨rfl, hb3⟩
      have B3 : Hid (Below B w w3) := Lib.hid (by first | exact B2.out.trans (hb3.mono s2) | exact (B2.out.alloc s2 _).trans (hb3.mono (Nat.le_trans s2 (by simp))))
      have s3 : B ≤ w3.heap.size := by have := B3.out.size; rw [HBQ.out] at this; exact this
      clear hb3
      unfold noBox
      go_wp2_with fail
      refine (remove_nil _ _ _).mono ?_
      rintro e w4 ⟨rfl, hb4⟩
      have B4 : Hid (Below B w w4) := Lib.hid (by first | exact B3.out.trans (hb4.mono s3) | exact (B3.out.alloc s3 _).trans (hb4.mono (Nat.le_trans s3 (by simp))))
      have s4 : B ≤ w4.heap.size := by have := B4.out.size; rw [HBQ.out] at this; exact this
      clear hb4
      unfold noBox
      go_wp2_with fail
      refine (push_nil ⟨0, 0⟩ _).mono ?_
      rintro e w5 ⟨rfl, hb5⟩
      have B5 : Hid (Below B w w5) := Lib.hid (by first | exact B4.out.trans (hb5.mono s4) | exact (B4.out.alloc s4 _).trans (hb5.mono (Nat.le_trans s4 (by simp))))
      have s5 : B ≤ w5.heap.size := by have := B5.out.size; rw [HBQ.out] at this; exact this
      clear hb5
      go_wp2_with fail
      refine (push_no 8 ⟨0, 0⟩ _ (.inr (by decide)) none).mono ?_
      rintro e w6 ⟨rfl, hb6⟩
      have B6 : Hid (Below B w w6) := Lib.hid (by first | exact B5.out.trans (hb6.mono s5) | exact (B5.out.alloc s5 _).trans (hb6.mono (Nat.le_trans s5 (by simp))))
      have s6 : B ≤ w6.heap.size := by have := B6.out.size; rw [HBQ.out] at this; exact this
      clear hb6
      go_wp2_with fail
      refine (len_nil _).mono ?_
      rintro e w7 ⟨rfl, rfl⟩
      go_wp2_with fail
      refine (used_nil _).mono ?_
      rintro e w7 ⟨rfl, rfl⟩
      go_wp2_with fail
      refine (line_nil _ _).mono ?_
      rintro e w7 ⟨rfl, rfl⟩
      go_wp2_with fail
      refine (awake_any _).mono ?_
      rintro e w7 ⟨rfl, hb7⟩
      go_wp2_with fail
      go_ret
      refine ⟨rfl, ?_⟩
      rw [HBQ.out]
      exact B6.out.trans (hb7.mono s6)
theorem room_any (room : Int) (l : List Int) (v : Value) (w : World) (h : Rd w 1 v l.length (l.map (Value.int .i64))) : Calls Try.prog 6 #[.int .i64 room, v] w (TrueBelow w) := by
  by_cases hc : 0 ≤ room ∧ room ≤ 1099511627776 ∧ l.length ≤ 60
  · exact room_in room l v w h hc.2.2 hc.1 hc.2.1
  · have hc2 : room < 0 ∨ (0 ≤ room ∧ 1099511627776 < room) ∨ (0 ≤ room ∧ room ≤ 1099511627776 ∧ 60 < l.length) := by omega
    obtain ⟨v, cp, rfl, h1, h2⟩ := h.form
    clear h hc
    rcases hc2 with h | ⟨h, h3⟩ | ⟨h, h3, h4⟩
    all_goals
      go_enter Try.func6, Try.ntmps6
      go_wp2_with fail
      refine (awake_any _).mono ?_
      rintro e w2 ⟨rfl, hb⟩
      go_wp2_with fail
      go_ret
      exact ⟨rfl, hb⟩
end Go.Proofs.Ytodkcbglbolfhaa
