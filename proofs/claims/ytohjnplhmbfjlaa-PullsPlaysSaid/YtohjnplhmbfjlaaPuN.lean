/- Who waits (chapter 18): awake; the law PullsNothing, walked. -/
import Derived.Test.YtohjnplhmbfjlaaPuG
import Derived.Test.YtohjnplhmbfjlaaFrame
namespace Go.Proofs.Ytohjnplhmbfjlaa
open Go.RowKit

theorem PuPost.opn {b B0 : Nat} {V : Nat → Value} {s s' : Ps} {w w' : World} (h : PuPost b B0 V s' w w') (hw : Pu b B0 V s w) : ∃ V', Pu b B0 V' s' w' ∧ Below B0 w w' := by
  have hb := h.below hw
  obtain ⟨V', h1, _⟩ := h
  exact ⟨V', h1, hb⟩
set_option maxRecDepth 100000 in
set_option maxHeartbeats 4000000 in
theorem awake_any (w : World) : Calls Try.prog 7 #[] w (TrueBelow w) := by
  go_enter Try.func7, Try.ntmps7
  go_wp2_with fail
  refine (new_pu 5 w (by decide)).mono ?_
  rintro e w1 ⟨rfl, hp1, hb1⟩
  have HP1 := Lib.hid hp1
  have B1 := Lib.hid hb1
  have s1 := hb1.size
  obtain ⟨b, HBZ⟩ : ∃ b, Hid (w.heap.size = b) := ⟨_, Lib.hid rfl⟩
  rw [HBZ.out] at HP1 B1 s1 ⊢
  clear hp1 hb1
  go_wp2_with fail
  refine (newno_pu 0 _ (by decide)).mono ?_
  rintro e w2 ⟨rfl, rfl⟩
  have O1 : (empty 5).ok 0 := empty_ok (by decide) (by decide)
  go_wp2_with fail
  refine (want_pu b b _ (empty 5) 0 0 1 2 _ HP1.out O1 (by unfold okWant; decide)).mono ?_
  rintro e w3 ⟨i, f, hf, rfl, hq⟩
  have O2 := want_ok (n := 2) O1 (Int.le_refl 0) (by decide) (by unfold okWant; decide) hf
  obtain ⟨rfl, rfl⟩ := fnd_nil hf
  have e2 : (empty 5).wantAt 0 1 2 0 false = (0, ⟨5, 1, 0, upd (fun _ => []) 0 [⟨1, 2, 0⟩], fun _ => 0⟩) := rfl
  rw [e2] at hq O2 ⊢
  obtain ⟨V2, hp2, hb2⟩ := hq.opn HP1.out
  have HP2 := Lib.hid hp2
  have B2 := Lib.hid (B1.out.trans hb2)
  clear hq hp2 hb2 e2 hf
  go_wp2_with fail
  refine (want_pu b b _ _ 0 1 1 1 _ HP2.out O2 (by unfold okWant; decide)).mono ?_
  rintro e w4 ⟨i, f, hf, rfl, hq⟩
  have O3 := want_ok (n := 1) O2 (Int.le_refl 0) (by decide) (by unfold okWant; decide) hf
  obtain ⟨rfl, rfl⟩ := fnd_nil hf
  have e2 : (⟨5, 1, 0, upd (fun _ => []) 0 [⟨1, 2, 0⟩], fun _ => 0⟩ : Ps).wantAt 1 1 1 0 false = (0, ⟨5, 2, 0, upd (upd (fun _ => []) 0 [⟨1, 2, 0⟩]) 1 [⟨1, 1, 0⟩], fun _ => 0⟩) := rfl
  rw [e2] at hq O3 ⊢
  obtain ⟨V3, hp3, hb3⟩ := hq.opn HP2.out
  have HP3 := Lib.hid hp3
  have B3 := Lib.hid (B2.out.trans hb3)
  clear hq hp3 hb3 e2 hf
  go_wp2_with fail
  refine (next_pu b b _ _ 0 _ HP3.out O3 (by decide)).mono ?_
  intro e w5 hn
  have hpk : pick ((⟨5, 2, 0, upd (upd (fun _ => []) 0 [⟨1, 2, 0⟩]) 1 [⟨1, 1, 0⟩], fun _ => 0⟩ : Ps).L 0) 0 = some 0 := rfl
  rcases hn with ⟨h1, _⟩ | ⟨k, i, x, h1, h2, h3, h4, rfl, h6⟩
  · exact absurd (h1 0 (by decide)) (fun h => by cases hpk.symm.trans h)
  obtain rfl : k = 0 := by
    rcases Nat.eq_zero_or_pos k with h | h
    · exact h
    · exact absurd (h2 0 h) (fun h => by cases hpk.symm.trans h)
  obtain rfl : i = 0 := by cases hpk.symm.trans h3; rfl
  obtain rfl : x = ⟨1, 2, 0⟩ := by injection h4 with h4; exact h4.symm
  have O4 := serve_ok O3 (by decide) h3 h4
  have e2 : (⟨5, 2, 0, upd (upd (fun _ => []) 0 [⟨1, 2, 0⟩]) 1 [⟨1, 1, 0⟩], fun _ => 0⟩ : Ps).serve 0 0 ⟨1, 2, 0⟩ = ⟨5, 2, 1, upd (upd (upd (fun _ => []) 0 [⟨1, 2, 0⟩]) 1 [⟨1, 1, 0⟩]) 0 [⟨1, 1, 1⟩], upd (fun _ => 0) 0 1⟩ := rfl
  have e3 : (⟨5, 2, 0, upd (upd (fun _ => []) 0 [⟨1, 2, 0⟩]) 1 [⟨1, 1, 0⟩], fun _ => 0⟩ : Ps).turn 0 = 0 := rfl
  rw [e3, e2] at h6 O4
  rw [e3]
  obtain ⟨V4, hp4, hb4⟩ := h6.opn HP3.out
  have HP4 := Lib.hid hp4
  have B4 := Lib.hid (B3.out.trans hb4)
  clear h1 h2 h3 h4 h6 hp4 hb4 e2 e3 hpk
  go_wp2_with fail
  refine (next_pu b b _ _ (0 + 1) _ HP4.out O4 (by decide)).mono ?_
  intro e w6 hn
  have hpk : pick ((⟨5, 2, 1, upd (upd (upd (fun _ => []) 0 [⟨1, 2, 0⟩]) 1 [⟨1, 1, 0⟩]) 0 [⟨1, 1, 1⟩], upd (fun _ => 0) 0 1⟩ : Ps).L 1) 0 = some 0 := rfl
  rcases hn with ⟨h1, _⟩ | ⟨k, i, x, h1, h2, h3, h4, rfl, h6⟩
  · exact absurd (h1 0 (by decide)) (fun h => by cases hpk.symm.trans h)
  obtain rfl : k = 0 := by
    rcases Nat.eq_zero_or_pos k with h | h
    · exact h
    · exact absurd (h2 0 h) (fun h => by cases hpk.symm.trans h)
  obtain rfl : i = 0 := by cases hpk.symm.trans h3; rfl
  obtain rfl : x = ⟨1, 1, 0⟩ := by injection h4 with h4; exact h4.symm
  have O5 := serve_ok O4 (by decide) h3 h4
  have e2 : (⟨5, 2, 1, upd (upd (upd (fun _ => []) 0 [⟨1, 2, 0⟩]) 1 [⟨1, 1, 0⟩]) 0 [⟨1, 1, 1⟩], upd (fun _ => 0) 0 1⟩ : Ps).serve 1 0 ⟨1, 1, 0⟩ = ⟨5, 2, 2, upd (upd (upd (upd (fun _ => []) 0 [⟨1, 2, 0⟩]) 1 [⟨1, 1, 0⟩]) 0 [⟨1, 1, 1⟩]) 1 [⟨1, 0, 1⟩], upd (upd (fun _ => 0) 0 1) 1 1⟩ := rfl
  have e3 : (⟨5, 2, 1, upd (upd (upd (fun _ => []) 0 [⟨1, 2, 0⟩]) 1 [⟨1, 1, 0⟩]) 0 [⟨1, 1, 1⟩], upd (fun _ => 0) 0 1⟩ : Ps).turn 0 = 1 := rfl
  rw [e3, e2] at h6 O5
  rw [e3]
  obtain ⟨V5, hp5, hb5⟩ := h6.opn HP4.out
  have HP5 := Lib.hid hp5
  have B5 := Lib.hid (B4.out.trans hb5)
  clear h1 h2 h3 h4 h6 hp5 hb5 e2 e3 hpk
  have s5 := B5.out.size
  go_wp2_with fail
  refine (len_pu b b _ _ _ _ HP5.out O5).mono ?_
  have e4 : sumTo (upd (upd (upd (upd (fun _ => []) 0 [⟨1, 2, 0⟩]) 1 [⟨1, 1, 0⟩]) 0 [⟨1, 1, 1⟩]) 1 [⟨1, 0, 1⟩]) 8 = 1 := by decide
  rw [e4]
  rintro e w7 ⟨rfl, hb7⟩
  go_wp2_with fail
  go_ret
  refine ⟨by simp, ?_⟩
  rw [HBZ.out]
  exact B5.out.trans (hb7.mono (by rw [← HBZ.out]; exact s5))
set_option maxRecDepth 100000 in
set_option maxHeartbeats 4000000 in
theorem nothing_any (p id n : Int) (w : World) : Calls Try.prog 6 #[.int .i64 p, .int .u64 id, .int .i64 n] w (TrueBelow w) := by
  by_cases hw : okWant p id n
  · have HW := Lib.hid hw
    obtain ⟨⟨h1, h2⟩, ⟨h3, h4⟩, h5, h6⟩ := hw
    have h2' : p ≤ 7 := by omega
    go_enter Try.func6, Try.ntmps6
    go_wp2_with fail
    refine (nextnil_pu _).mono ?_
    rintro e w1 ⟨rfl, rfl⟩
    go_wp2_with fail
    refine (wantnil_pu p id n _ HW.out).mono ?_
    rintro e w1 ⟨rfl, rfl⟩
    go_wp2_with fail
    refine (dropno_pu none p id _ (.inl rfl)).mono ?_
    rintro e w1 ⟨rfl, hb1⟩
    have B1 := Lib.hid hb1
    have s1 := hb1.size
    clear hb1
    go_wp2_with fail
    refine (waitsno_pu none p id _ (.inl rfl)).mono ?_
    rintro e w2 ⟨rfl, hb2⟩
    have B2 := Lib.hid (B1.out.trans (hb2.mono s1))
    have s2 := B2.out.size
    clear hb2
    go_wp2_with fail
    refine (pulledno_pu none p id _ (.inl rfl)).mono ?_
    rintro e w3 ⟨rfl, hb3⟩
    have B3 := Lib.hid (B2.out.trans (hb3.mono s2))
    have s3 := B3.out.size
    clear hb3
    go_wp2_with fail
    refine (lennil_pu _).mono ?_
    rintro e w4 ⟨rfl, rfl⟩
    go_wp2_with fail
    refine (awake_any _).mono ?_
    rintro e w5 ⟨rfl, hb5⟩
    go_wp2_with fail
    go_ret
    exact ⟨by simp, B3.out.trans (hb5.mono s3)⟩
  · have HW := Lib.hid hw
    unfold okWant at hw
    rcases (by omega : p < 0 ∨ (0 ≤ p ∧ 7 < p) ∨ ((0 ≤ p ∧ p ≤ 7) ∧ id < 1) ∨ ((0 ≤ p ∧ p ≤ 7) ∧ 1 ≤ id ∧ 1152921504606846976 < id) ∨ ((0 ≤ p ∧ p ≤ 7) ∧ (1 ≤ id ∧ id ≤ 1152921504606846976) ∧ n < 1) ∨ ((0 ≤ p ∧ p ≤ 7) ∧ (1 ≤ id ∧ id ≤ 1152921504606846976) ∧ 1 ≤ n ∧ 1000000 < n)) with h1 | ⟨h1, h2⟩ | ⟨⟨h1, h2⟩, h3⟩ | ⟨⟨h1, h2⟩, h3, h4⟩ | ⟨⟨h1, h2⟩, ⟨h3, h4⟩, h5⟩ | ⟨⟨h1, h2⟩, ⟨h3, h4⟩, h5, h6⟩
    all_goals
      clear hw
      go_enter Try.func6, Try.ntmps6
      go_wp2_with fail
      refine (nextnil_pu _).mono ?_
      rintro e w1 ⟨rfl, rfl⟩
      go_wp2_with fail
      refine (wantno_pu none p id n _ HW.out).mono ?_
      rintro e w1 ⟨rfl, rfl⟩
      go_wp2_with fail
      refine (dropno_pu none p id _ (.inl rfl)).mono ?_
      rintro e w1 ⟨rfl, hb1⟩
      have B1 := Lib.hid hb1
      have s1 := hb1.size
      clear hb1
      go_wp2_with fail
      refine (waitsno_pu none p id _ (.inl rfl)).mono ?_
      rintro e w2 ⟨rfl, hb2⟩
      have B2 := Lib.hid (B1.out.trans (hb2.mono s1))
      have s2 := B2.out.size
      clear hb2
      go_wp2_with fail
      refine (pulledno_pu none p id _ (.inl rfl)).mono ?_
      rintro e w3 ⟨rfl, hb3⟩
      have B3 := Lib.hid (B2.out.trans (hb3.mono s2))
      have s3 := B3.out.size
      clear hb3
      go_wp2_with fail
      refine (lennil_pu _).mono ?_
      rintro e w4 ⟨rfl, rfl⟩
      go_wp2_with fail
      refine (awake_any _).mono ?_
      rintro e w5 ⟨rfl, hb5⟩
      go_wp2_with fail
      go_ret
      exact ⟨by simp, B3.out.trans (hb5.mono s3)⟩
end Go.Proofs.Ytohjnplhmbfjlaa
