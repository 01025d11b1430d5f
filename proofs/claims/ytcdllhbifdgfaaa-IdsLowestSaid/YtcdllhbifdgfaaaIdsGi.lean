/- The laws IdsGives and IdsLowest (chapter 9), walked. -/
import Derived.Test.YtcdllhbifdgfaaaIds2
namespace Go.Proofs.Ytcdllhbifdgfaaa
open Go.RowKit

theorem gives_any (last n : Int) (w : World) (h0 : 0 ≤ last) (h1 : last ≤ 18446744073709551615) : Calls Try.prog 4 #[.int .u64 last, .int .i64 n] w (TrueBelow w) := by
  by_cases hn : 0 ≤ n ∧ n ≤ 200
  · obtain ⟨n0, n1⟩ := hn
    by_cases hr : 1 ≤ last ∧ last ≤ 1152921504606846976
    · have HR := Lib.hid hr
      obtain ⟨r1, r2⟩ := hr
      obtain ⟨N, HN⟩ : ∃ N : Nat, Hid (n = (N : Int)) := ⟨n.toNat, Lib.hid (by omega)⟩
      go_enter Try.func4, Try.ntmps4
      go_wp2_with fail
      refine (giver_yes last _ HR.out).mono ?_
      rintro e w1 ⟨rfl, hg, hb⟩
      have HG := Lib.hid hg
      have HB := Lib.hid hb
      have lg := hg.lt
      have s1 := hb.size
      clear hg hb
      go_wp2_with fail
      generalize hB : w.heap.size = B at *
      have HBQ := Lib.hid hB
      clear hB
      go_loopw [8] (fun i wr => ∃ (k : Nat), i = .int .i64 k ∧ (k : Int) ≤ n ∧ Ob wr B (gc last (min k last)) TG ∧ Below B w wr) (fun i _ => n.toNat - (intOf i).toNat)
      case atStart => exact ⟨0, rfl, by omega, by rw [show min ((0 : Nat) : Int) last = 0 by omega]; exact HG.out, HB.out⟩
      case round =>
        obtain ⟨k, rfl, hk, hg, hb⟩ := hrel
        have HGk := Lib.hid hg
        have HBk := Lib.hid hb
        have sk : B ≤ wr.heap.size := by have := hb.size; rw [HBQ.out] at this; exact this
        clear hg hb
        by_cases hkn : (k : Int) < n
        · by_cases hkl : (k : Int) < last
          · have hg := HGk.out
            rw [show min (k : Int) last = k by omega] at hg
            go_wp2_with fail
            refine (next_yes B last k _ hg hkl (by omega) r2).mono ?_
            rintro e w2 ⟨rfl, hg2, hk2⟩
            have HG2 := Lib.hid hg2
            have B2 := Lib.hid (HBk.out.trans (hk2.belowAt sk (fun x hx => Nat.le_of_eq (show x = B from hx).symm)))
            clear hg hg2 hk2
            go_wp2_with fail
            refine (last_any B last _ _ HG2.out).mono ?_
            rintro e w3 ⟨rfl, rfl⟩
            go_wp2_with fail
            go_roundw
            case rel => exact ⟨k + 1, by go_num, by omega, by rw [show min ((k + 1 : Nat) : Int) last = (k : Int) + 1 by omega]; exact HG2.out, B2.out⟩
            case measure => simp [intOf]; omega
          · have hg := HGk.out
            rw [show min (k : Int) last = last by omega] at hg
            go_wp2_with fail
            refine (next_no B last last _ hg (Int.le_refl _)).mono ?_
            rintro e w2 ⟨rfl, q, rfl⟩
            have HG2 := Lib.hid (hg.dn (n := q))
            have B2 := Lib.hid (below_dn (n := q) HBk.out)
            generalize wr.drewN q = w2 at *
            clear hg
            go_wp2_with fail
            refine (last_any B last _ _ HG2.out).mono ?_
            rintro e w3 ⟨rfl, rfl⟩
            go_wp2_with fail
            go_roundw
            case rel => exact ⟨k + 1, by go_num, by omega, by rw [show min ((k + 1 : Nat) : Int) last = last by omega]; exact HG2.out, B2.out⟩
            case measure => simp [intOf]; omega
        · go_wp2_with fail
          go_wp2_with fail
          refine (awake_any _).mono ?_
          rintro e w3 ⟨rfl, hb3⟩
          go_wp2_with fail
          go_ret
          refine ⟨rfl, ?_⟩
          rw [HBQ.out]
          exact HBk.out.trans (hb3.mono sk)
    · have HN := Lib.hid hr
      have hc : last < 1 ∨ (1 ≤ last ∧ decide (last ≤ 1152921504606846976) = false) := by rcases Int.lt_or_le last 1 with h | h; exact .inl h; exact .inr ⟨h, by simp; omega⟩
      clear hr
      rcases hc with hc | ⟨hc, hc2⟩
      all_goals
        go_enter Try.func4, Try.ntmps4
        go_wp2_with fail
        refine (giver_no last _ HN.out).mono ?_
        rintro e w1 ⟨rfl, rfl⟩
        go_wp2_with fail
        refine (awake_any _).mono ?_
        rintro e w2 ⟨rfl, hb⟩
        go_wp2_with fail
        go_ret
        exact ⟨rfl, hb⟩
  · rcases (by omega : n < 0 ∨ (0 ≤ n ∧ 200 < n)) with h | ⟨h, h2⟩
    all_goals
      clear hn
      go_enter Try.func4, Try.ntmps4
      go_wp2_with fail
      refine (awake_any _).mono ?_
      rintro e w2 ⟨rfl, hb⟩
      go_wp2_with fail
      go_ret
      exact ⟨rfl, hb⟩
set_option maxHeartbeats 2000000 in
theorem lowest_law (l : List Int) (v : Value) (next n : Int) (w : World) (h : Rd w 1 v l.length (l.map (Value.int .u64))) : Calls Try.prog 8 #[v, .int .u64 next, .int .u64 n] w (TrueBelow w) := by
  obtain ⟨v, cp, rfl, h1, h2⟩ := h.form
  have HR := Lib.hid h
  clear h
  by_cases hl : l.length ≤ 60
  · go_enter Try.func8, Try.ntmps8
    go_wp2_with fail
    refine (new_yes 5 _ ⟨by decide, by decide⟩).mono ?_
    rintro e w1 ⟨rfl, hw, hb⟩
    have HB := Lib.hid hb
    have HR1 := Lib.hid (HR.out.below hb)
    have s1 := hb.size
    clear hw hb
    go_wp2_with fail
    generalize hB : w.heap.size = B at *
    have HBQ := Lib.hid hB
    clear hB
    go_loopw [9, 10] (fun m i wr => ∃ (k : Nat), m = .int .u64 ((l.take k).foldl min next) ∧ i = .int .i64 k ∧ k ≤ l.length ∧ w1 = wr) (fun _ i _ => l.length - (intOf i).toNat)
    case atStart => exact ⟨0, rfl, rfl, Nat.zero_le _, rfl⟩
    case round =>
      obtain ⟨k, rfl, rfl, hk, rfl⟩ := hrel
      by_cases hlt : k < l.length
      · obtain ⟨b, o, rfl, c0⟩ := HR1.out.at k hlt
        have HT := Lib.hid (take_foldl l next k hlt)
        generalize l[k] = x at *
        go_wp2_with fail
        go_roundw
        case rel => exact ⟨k + 1, by rw [HT.out], by go_num, by omega, trivial⟩
        case measure => simp [intOf]; omega
      · obtain rfl : k = l.length := by omega
        have HT := Lib.hid (List.take_length (l := l))
        rcases (by omega : n = 0 ∨ (n ≠ 0 ∧ 1152921504606846976 < n) ∨ (n ≠ 0 ∧ n ≤ 1152921504606846976)) with hc | ⟨hc, hc2⟩ | ⟨hc, hc2⟩
        all_goals
          first | (have HN : Hid (nilCode n = 1) := Lib.hid (if_pos (by omega))) | skip
          first | (have HN : Hid (nilCode n = 4) := Lib.hid (if_neg (by omega))) | skip
          first | (have hz : (n == 0) = false := beq_eq_false_iff_ne.2 hc) | (have hz : (n == 0) = true := beq_iff_eq.2 hc)
          first | (have hb2 : decide (1152921504606846976 < n) = true := decide_eq_true hc2) | (have hb2 : decide (1152921504606846976 < n) = false := decide_eq_false (by omega))
          clear hc
          first | clear hc2 | skip
          rw [HT.out]
          go_wp2_with fail
          refine (next_nil _).mono ?_
          rintro e w2 ⟨rfl, q, rfl⟩
          go_wp2_with fail
          refine (lowest_any _ next l _ _ (HR1.out.dn (m := q))).mono ?_
          rintro e w3 ⟨rfl, rfl⟩
          go_wp2_with fail
          refine (done_nil n _).mono ?_
          rintro e w3 ⟨rfl, q3, rfl⟩
          rw [HN.out]
          go_wp2_with fail
          refine (is_nil n _).mono ?_
          rintro e w3 ⟨rfl, rfl⟩
          go_wp2_with fail
          refine (retire_nil n _).mono ?_
          rintro e w3 ⟨rfl, rfl⟩
          go_wp2_with fail
          refine (mark_nil _).mono ?_
          rintro e w3 ⟨rfl, rfl⟩
          go_wp2_with fail
          refine (len_nil _).mono ?_
          rintro e w3 ⟨rfl, rfl⟩
          go_wp2_with fail
          refine (last_nil _).mono ?_
          rintro e w3 ⟨rfl, rfl⟩
          go_wp2_with fail
          refine (awake_any _).mono ?_
          rintro e w3 ⟨rfl, hb3⟩
          go_wp2_with fail
          go_ret
          refine ⟨rfl, ?_⟩
          rw [HBQ.out]
          exact (below_dn HB.out).trans (hb3.mono s1)
  · go_enter Try.func8, Try.ntmps8
    go_wp2_with fail
    refine (awake_any _).mono ?_
    rintro e w2 ⟨rfl, hb⟩
    go_wp2_with fail
    go_ret
    exact ⟨rfl, hb⟩
end Go.Proofs.Ytcdllhbifdgfaaa
