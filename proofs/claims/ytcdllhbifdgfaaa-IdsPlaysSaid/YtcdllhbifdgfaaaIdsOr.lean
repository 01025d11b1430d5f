/- The law IdsOrder (chapter 9), walked. -/
import Derived.Test.YtcdllhbifdgfaaaIds2
import Derived.Test.YtcdllhbifdgfaaaIdsQ
import Derived.Test.YtcdllhbifdgfaaaAlike
namespace Go.Proofs.Ytcdllhbifdgfaaa
open Go.RowKit

theorem new_ok {m : Int} (h0 : 1 ≤ m) (h1 : m ≤ 100000) : (⟨m, 1, []⟩ : Wd).ok := ⟨h0, h1, by show (1 : Int) ≤ 1; omega, by show (1 : Int) ≤ _; omega, List.Pairwise.nil, fun x hx => (by cases hx), by show ((0 : Nat) : Int) ≤ m; omega⟩
theorem new_up {m n : Int} (h : 1 ≤ n) : (⟨m, 1, []⟩ : Wd).upTo n := by
  intro x hx
  rcases hx with hx | hx
  · have hx : x < 1 := hx
    omega
  · cases hx
set_option maxHeartbeats 2000000 in
theorem order_in (n : Int) (l : List Int) (v : Value) (w : World) (h : Rd w 1 v l.length (l.map (Value.int .i64))) (hl : l.length ≤ 100) (n0 : 1 ≤ n) (n1 : n ≤ 60) : Calls Try.prog 3 #[.int .i64 n, v] w (TrueBelow w) := by
  obtain ⟨v, cp, rfl, h1, h2⟩ := h.form
  have HR := Lib.hid h
  clear h
  obtain ⟨N, HN⟩ : ∃ N : Nat, Hid (n = (N : Int)) := ⟨n.toNat, Lib.hid (by omega)⟩
  go_enter Try.func3, Try.ntmps3
  go_wp2_with fail
  refine (new_yes 60 _ ⟨by decide, by decide⟩).mono ?_
  rintro e w1 ⟨rfl, hw, hb⟩
  have HB := Lib.hid hb
  have HW := Lib.hid hw
  have s1 := hb.size
  clear hw hb
  go_wp2_with fail
  generalize hB : w.heap.size = B at *
  have HBQ := Lib.hid hB
  clear hB
  go_loopw [7] (fun i wr => ∃ (k : Nat) (V : Value) (s : Wd), i = .int .i64 k ∧ k ≤ l.length ∧ Wi B B V s wr ∧ s.ok ∧ s.upTo n ∧ s.most = 60 ∧ Below B w wr) (fun i _ => l.length - (intOf i).toNat)
  case atStart => exact ⟨0, _, _, rfl, Nat.zero_le _, HW.out, new_ok (by decide) (by decide), new_up n0, rfl, HB.out⟩
  case round =>
    obtain ⟨k, V, s, rfl, hk, hw, ho, hu, hm, hb⟩ := hrel
    have HWk := Lib.hid hw
    have HO := Lib.hid ho
    have HU := Lib.hid hu
    have HM := Lib.hid hm
    have HBk := Lib.hid hb
    have sk : B ≤ wr.heap.size := by have := hb.size; rw [HBQ.out] at this; exact this
    clear hw ho hu hm hb
    by_cases hlt : k < l.length
    · have hrd := HR.out.below (by rw [HBQ.out]; exact HBk.out)
      obtain ⟨b, o, rfl, c0⟩ := hrd.at k hlt
      have hbl : b < wr.heap.size := by
        obtain ⟨_, _, _, he, _, _, hb, _⟩ := hrd.some (by omega) (by decide)
        cases he; exact hb
      clear hrd
      generalize l[k] = x at *
      have r0 : 0 ≤ x % n := Int.emod_nonneg _ (by omega)
      have r1 : x % n < n := Int.emod_lt_of_pos _ (by omega)
      go_wp2_with fail
      refine (round_any x n _ (by omega) (by omega)).mono ?_
      rintro e w2 ⟨rfl, rfl⟩
      generalize x % n = r at *
      obtain ⟨hc, hu2, hm2⟩ := order_step HO.out HU.out HM.out n1 (id := 1 + r) (by omega) (by omega)
      have HC := Lib.hid hc
      have HU2 := Lib.hid hu2
      have HM2 := Lib.hid hm2
      have HO2 := Lib.hid (done_ok HO.out (1 + r) (by omega))
      clear hc hu2 hm2
      go_wp2_with fail
      refine (done_any B B V s (1 + r) _ HWk.out HO.out (by omega)).mono ?_
      rintro e w3 ⟨rfl, V3, hw3, hk3, _⟩
      rw [HC.out]
      have HW3 := Lib.hid hw3
      have B3 := Lib.hid (HBk.out.trans (hk3.belowAt (B := B) sk (fun x hx => (HWk.out.lt x hx).1)))
      clear hw3 hk3
      go_wp2_with fail
      go_roundw
      case rel => exact ⟨k + 1, V3, _, by go_num, by omega, HW3.out, HO2.out, HU2.out, HM2.out, B3.out⟩
      case measure => simp [intOf]; omega
    · go_wp2_with fail
      go_loopw [8] (fun i wq => ∃ (j : Int) (V : Value) (s : Wd), i = .int .i64 j ∧ 0 ≤ j ∧ j ≤ n ∧ Wi B B V s wq ∧ s.ok ∧ s.upTo n ∧ s.most = 60 ∧ (∀ x, j < x → x ≤ n → s.has x) ∧ Below B w wq) (fun i _ => (intOf i).toNat)
      case atStart => exact ⟨n, V, s, rfl, by omega, Int.le_refl _, HWk.out, HO.out, HU.out, HM.out, fun x h1 h2 => by omega, HBk.out⟩
      case round =>
        obtain ⟨j, V', s', rfl, j0, j1, hw, ho, hu, hm, ha, hb⟩ := hrel
        have HWj := Lib.hid hw
        have HOj := Lib.hid ho
        have HUj := Lib.hid hu
        have HMj := Lib.hid hm
        have HA := Lib.hid ha
        have HBj := Lib.hid hb
        have sj := hb.size
        rw [HBQ.out] at sj
        clear hw ho hu hm hb ha
        by_cases hj : 1 ≤ j
        · obtain ⟨hc, hu2, hm2⟩ := order_step HOj.out HUj.out HMj.out n1 (id := j) hj j1
          have HC := Lib.hid hc
          have HU2 := Lib.hid hu2
          have HM2 := Lib.hid hm2
          have HO2 := Lib.hid (done_ok HOj.out j (by omega))
          have HA2 : Hid (∀ x, j - 1 < x → x ≤ n → (s'.done j).has x) := Lib.hid (fun x h1 h2 => (done_has hc x).2 (by
            rcases (by omega : x = j ∨ j < x) with h3 | h3
            · exact .inl h3
            · exact .inr (HA.out x h3 h2)))
          clear hc hu2 hm2
          go_wp2_with fail
          refine (done_any B B V' s' j _ HWj.out HOj.out (by omega)).mono ?_
          rintro e w3 ⟨rfl, V3, hw3, hk3, _⟩
          rw [HC.out]
          have HW3 := Lib.hid hw3
          have B3 := Lib.hid (HBj.out.trans (hk3.belowAt (B := B) sj (fun x hx => (HWj.out.lt x hx).1)))
          clear hw3 hk3
          go_wp2_with fail
          go_roundw
          case rel => exact ⟨j - 1, V3, _, by go_num, by omega, by omega, HW3.out, HO2.out, HU2.out, HM2.out, HA2.out, B3.out⟩
          case measure => simp [intOf]; omega
        · obtain ⟨e1, e2⟩ := order_end HOj.out HUj.out n0 (fun x h1 h2 => HA.out x (by omega) h2)
          have E1 := Lib.hid e1
          have i1 := Lib.hid (show s'.is n = true from (is_iff _ _).2 ⟨by omega, .inl (by omega)⟩)
          have i2 := Lib.hid (show s'.is (n + 1) = false by
            have hh : ¬ s'.is (n + 1) = true := fun hh => by have := HUj.out _ ((is_iff _ _).1 hh).2; omega
            simpa using hh)
          have E2 := Lib.hid (show (s'.l.length : Int) = 0 by rw [e2]; rfl)
          clear e1 e2
          go_wp2_with fail
          refine (mark_any B B V' s' _ HWj.out).mono ?_
          rintro e w3 ⟨rfl, rfl⟩
          rw [E1.out]
          go_wp2_with fail
          refine (len_any B B V' s' _ HWj.out).mono ?_
          rintro e w3 ⟨rfl, rfl⟩
          rw [E2.out]
          go_wp2_with fail
          refine (is_any B B V' s' n _ HWj.out HOj.out).mono ?_
          rintro e w3 ⟨rfl, q, rfl⟩
          rw [i1.out]
          go_wp2_with fail
          refine (is_any B B V' s' (n + 1) _ HWj.out.dn HOj.out).mono ?_
          rintro e w3 ⟨rfl, q2, rfl⟩
          rw [i2.out]
          go_wp2_with fail
          refine (awake_any _).mono ?_
          rintro e w3 ⟨rfl, hb3⟩
          go_wp2_with fail
          go_ret
          refine ⟨rfl, ?_⟩
          rw [HBQ.out]
          exact (below_dn HBj.out).trans (hb3.mono sj)
theorem order_any (n : Int) (l : List Int) (v : Value) (w : World) (h : Rd w 1 v l.length (l.map (Value.int .i64))) : Calls Try.prog 3 #[.int .i64 n, v] w (TrueBelow w) := by
  by_cases hc : 1 ≤ n ∧ n ≤ 60 ∧ l.length ≤ 100
  · exact order_in n l v w h hc.2.2 hc.1 hc.2.1
  · have hc2 : n < 1 ∨ (1 ≤ n ∧ 60 < n) ∨ (1 ≤ n ∧ n ≤ 60 ∧ 100 < l.length) := by omega
    obtain ⟨v, cp, rfl, h1, h2⟩ := h.form
    clear h hc
    rcases hc2 with h | ⟨h, h3⟩ | ⟨h, h3, h4⟩
    all_goals
      go_enter Try.func3, Try.ntmps3
      go_wp2_with fail
      refine (awake_any _).mono ?_
      rintro e w2 ⟨rfl, hb⟩
      go_wp2_with fail
      go_ret
      exact ⟨rfl, hb⟩
end Go.Proofs.Ytcdllhbifdgfaaa
