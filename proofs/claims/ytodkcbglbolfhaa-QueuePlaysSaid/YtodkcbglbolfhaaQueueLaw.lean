/- The laws of queue (chapter 12), walked: the first part. -/
import Derived.Test.YtodkcbglbolfhaaQueue2
import Derived.Test.YtodkcbglbolfhaaStruct
namespace Go.Proofs.Ytodkcbglbolfhaa
open Go.RowKit

theorem tmod_neg (k n : Int) (hk : k < 0) (hn : 0 < n) : (k.tmod n < 0 → k.tmod n + n = k % n) ∧ (¬ k.tmod n < 0 → k.tmod n = k % n) ∧ -n < k.tmod n ∧ k.tmod n < n := by
  have h := Int.tmod_eq_emod (a := k) (b := n)
  have h1 := Int.emod_nonneg k (show n ≠ 0 by omega)
  have h2 := Int.emod_lt_of_pos k hn
  have h3 : (n.natAbs : Int) = n := Int.natAbs_of_nonneg (by omega)
  by_cases hd : n ∣ k
  · rw [if_pos (.inr hd)] at h
    have := Int.emod_eq_zero_of_dvd hd
    omega
  · rw [if_neg (by intro hh; rcases hh with hh | hh; omega; exact hd hh)] at h
    have h5 : k % n ≠ 0 := fun he => hd (Int.dvd_of_emod_eq_zero he)
    omega
theorem round_any (k n : Int) (w : World) (hn : 0 < n) (hn2 : n ≤ 1000000) : Calls Try.prog 10 #[.int .i64 k, .int .i64 n] w fun e w' => e = .returned (.int .i64 (k % n)) ∧ w = w' := by
  have hnb : (n == 0) = false := by simp; omega
  by_cases hk : 0 ≤ k
  · have h1 := Int.emod_nonneg k (show n ≠ 0 by omega)
    go_enter Try.func10, Try.ntmps10
    go_wp2_with fail
    go_ret
    exact ⟨rfl, rfl⟩
  · obtain ⟨h1, h2, h3, h4⟩ := tmod_neg k n (by omega) hn
    by_cases h5 : k.tmod n < 0
    · have H := Lib.hid (h1 h5)
      clear h1 h2
      go_enter Try.func10, Try.ntmps10
      go_wp2_with fail
      go_ret
      exact ⟨ret_int H.out, rfl⟩
    · have H := Lib.hid (h2 h5)
      clear h1 h2
      go_enter Try.func10, Try.ntmps10
      go_wp2_with fail
      go_ret
      exact ⟨ret_int H.out, rfl⟩
theorem lenTo_upd (L : Nat → List Bx) (p : Nat) (hp : p < 8) (l' : List Bx) : lenTo (upd L p l') 8 + (L p).length = lenTo L 8 + l'.length := by
  rcases eight hp with rfl | rfl | rfl | rfl | rfl | rfl | rfl | rfl <;> simp [lenTo, upd] <;> omega
theorem lenTo_ge (L : Nat → List Bx) (p : Nat) (hp : p < 8) : (L p).length ≤ lenTo L 8 := by
  rcases eight hp with rfl | rfl | rfl | rfl | rfl | rfl | rfl | rfl <;> simp only [lenTo] <;> omega
theorem lenTo_nil (L : Nat → List Bx) (h : ∀ i, i < 8 → L i = []) : lenTo L 8 = 0 := by
  simp [lenTo, h 0 (by omega), h 1 (by omega), h 2 (by omega), h 3 (by omega), h 4 (by omega), h 5 (by omega), h 6 (by omega), h 7 (by omega)]
theorem Qu.base_le {b B0 : Nat} {V : Nat → Value} {room u : Int} {L : Nat → List Bx} {w : World} (h : Qu b B0 V room u L w) : ∀ x, QM b V x → B0 ≤ x := by
  rintro x (rfl | ⟨i, hi, hx⟩)
  · exact h.base
  · exact ((h.own i hi).lt x hx).1
theorem Qu.keptB {b B0 : Nat} {V : Nat → Value} {room u : Int} {L : Nat → List Bx} {w w' : World} (h : Qu b B0 V room u L w) (hk : Kept (QM b V) w w') : Below B0 w w' :=
  hk.belowAt (Nat.le_trans h.base (Nat.le_of_lt h.ob.lt)) h.base_le

def b1 : Bx := ⟨1, 1⟩
def b2 : Bx := ⟨99, 2⟩
def b3 : Bx := ⟨1, 3⟩
theorem upd_upd {α : Type} (f : Nat → α) (p : Nat) (x y : α) : upd (upd f p x) p y = upd f p y := by
  funext i; unfold upd; split <;> rfl
set_option maxHeartbeats 2000000 in
theorem awake_any (w : World) : Calls Try.prog 7 #[] w (TrueBelow w) := by
  go_enter Try.func7, Try.ntmps7
  go_wp2_with fail
  refine (qnew_yes 100 _ (by decide)).mono ?_
  rintro e w1 ⟨rfl, hq, hb1⟩
  have HQ := Lib.hid hq
  have HB := Lib.hid hb1
  clear hq hb1
  go_wp2_with fail
  refine (qnew_no (-1) _ (by decide)).mono ?_
  rintro e w2 ⟨rfl, rfl⟩
  go_wp2_with fail
  refine (push_yes _ _ _ _ _ _ 0 b1 _ HQ.out (by decide) (by decide) (by decide) (by decide) (by decide)).mono ?_
  rintro e w2 ⟨rfl, V2, hq2, hk2, _⟩
  have HQ2 := Lib.hid hq2
  have HB2 := Lib.hid (HB.out.trans (HQ.out.keptB hk2))
  clear hq2 hk2
  go_wp2_with fail
  refine (push_yes _ _ _ _ _ _ 7 b2 _ HQ2.out (by decide) (by decide) (by decide) (by decide) (by decide)).mono ?_
  rintro e w3 ⟨rfl, V3, hq3, hk3, _⟩
  have HQ3 := Lib.hid hq3
  have HB3 := Lib.hid (HB2.out.trans (HQ2.out.keptB hk3))
  clear hq3 hk3
  go_wp2_with fail
  refine (push_full _ _ _ _ _ _ 3 b3 _ HQ3.out (by decide) (by decide) (by decide) (by decide)).mono ?_
  rintro e w4 ⟨rfl, hb4⟩
  have HQ4 := Lib.hid (HQ3.out.below hb4)
  have HB4 := Lib.hid (HB3.out.trans (hb4.mono HB3.out.size))
  clear hb4
  go_wp2_with fail
  refine (pop_any _ _ _ _ _ _ _ HQ4.out (by
    intro p x r hp hl
    have hx : x = b1 ∨ x = b2 := by
      rcases eight hp with rfl | rfl | rfl | rfl | rfl | rfl | rfl | rfl <;> simp [upd] at hl
      · exact .inl hl.1.symm
      · exact .inr hl.1.symm
    rcases hx with rfl | rfl <;> decide) (by decide)).mono ?_
  rintro e w5 (⟨_, hn, _⟩ | ⟨p, x, r, V5, hp, hl, habove, rfl, hq5, hk5, _⟩)
  · exact absurd (hn 7 (by omega)) (by simp [upd])
  have hp7 : p = 7 := by
    rcases Nat.lt_or_ge p 7 with h | h
    · exact absurd (habove 7 h (by omega)) (by simp [upd])
    · omega
  subst hp7
  have hx : x = b2 := by simp [upd] at hl; exact hl.1.symm
  subst hx
  have HB5 := Lib.hid (HB4.out.trans (HQ4.out.keptB hk5))
  clear hl habove hq5 hk5
  unfold boxV
  go_wp2_with fail
  go_ret
  exact ⟨rfl, HB5.out.alloc HB5.out.size _⟩
end Go.Proofs.Ytodkcbglbolfhaa
